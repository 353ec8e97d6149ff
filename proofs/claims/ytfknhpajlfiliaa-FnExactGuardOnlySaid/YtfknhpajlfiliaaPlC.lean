/- Arguments of laws, by their types. -/
import Derived.Test.YtfknhpajlfiliaaPlB
import Derived.Test.YtfknhpajlfiliaaTeeZd
namespace Go.Proofs.Ytfknhpajlfiliaa
open Go T
set_option linter.unusedVariables false
set_option linter.unusedSimpArgs false

section
variable {h : Heap}
theorem tv_struct {n t : Nat} {fs : Array Field} {xs : List V} (hu : Try.prog.underlying t = some (.struct fs)) (hx : TV Try.prog h (n + 1) t xs) : TVs Try.prog (TV Try.prog h n) fs.toList xs := by
  simp only [TV, hu] at hx; exact hx
theorem tv_slice {n t e : Nat} {xs : List V} (hu : Try.prog.underlying t = some (.slice e)) (hx : TV Try.prog h (n + 1) t xs) : ∃ a c rs, xs = [.sl (Try.prog.cellsOf e) a rs.length c] ∧ Sl h rs a rs.length ∧ rs.length ≤ maxLen ∧ ∀ row ∈ rs, TV Try.prog h n e row := by
  simp only [TV, hu] at hx
  obtain ⟨a, c, rs, h1, h2, h3, h4⟩ := hx
  refine ⟨a, c, rs, h1, ⟨rfl, h4.imp id ?_⟩, h2, fun row hr => (h3 row hr).2⟩
  rintro ⟨b, rfl, hb⟩
  exact ⟨b, 0, _, rfl, hb, by simp⟩
theorem tv_int {n t : Nat} {xs : List V} (hu : Try.prog.underlying t = some (.int .i64)) (hx : TV Try.prog h (n + 1) t xs) : ∃ i : Int, xs = [.int .i64 i] := by
  simp only [TV, hu] at hx
  obtain ⟨i, h1, _⟩ := hx
  exact ⟨i, h1⟩
theorem av_int {n : Nat} {x : V} (hx : ArgV Try.prog h (n + 1) 3 x) : ∃ i : Int, x = .int .i64 i := by
  have hx2 : TV Try.prog h (n + 1) 3 [x] := by
    unfold ArgV at hx; rw [Try.underlying3] at hx; exact hx
  obtain ⟨i, hi⟩ := tv_int Try.underlying3 hx2
  injection hi with hi _
  exact ⟨i, hi⟩
theorem tv_Tag {n : Nat} {xs : List V} (hx : TV Try.prog h (n + 2) 37 xs) : ∃ t : Tag, xs = t.cs := by
  obtain ⟨y1, z1, rfl, _, g1, y2, z2, rfl, _, g2, rfl⟩ := tv_struct Try.underlying37 hx
  obtain ⟨i, rfl⟩ := tv_int Try.underlying3 g1
  obtain ⟨j, rfl⟩ := tv_int Try.underlying3 g2
  exact ⟨⟨i, j⟩, rfl⟩
theorem tv_Done {n : Nat} {xs : List V} (hx : TV Try.prog h (n + 3) 39 xs) : ∃ d : Done, xs = d.cs := by
  obtain ⟨y1, z1, rfl, _, g1, y2, z2, rfl, _, g2, y3, z3, rfl, _, g3, y4, z4, rfl, _, g4, rfl⟩ := tv_struct Try.underlying39 hx
  obtain ⟨i, rfl⟩ := tv_int Try.underlying3 g1
  obtain ⟨j, rfl⟩ := tv_int Try.underlying3 g2
  obtain ⟨k, rfl⟩ := tv_int Try.underlying3 g3
  obtain ⟨t, rfl⟩ := tv_Tag g4
  exact ⟨⟨i, j, k, t⟩, rfl⟩
theorem rows_map {α : Type} {cs : α → List V} : ∀ {rs : List (List V)}, (∀ r ∈ rs, ∃ x, r = cs x) → ∃ l : List α, rs = l.map cs
  | [], _ => ⟨[], rfl⟩
  | r :: rs, h => by
    obtain ⟨x, rfl⟩ := h r (by simp)
    obtain ⟨l, rfl⟩ := rows_map (rs := rs) fun r' hr => h r' (by simp [hr])
    exact ⟨x :: l, rfl⟩
theorem av_DoneS {n : Nat} {x : V} (hx : ArgV Try.prog h (n + 4) 22 x) : ∃ a m c, ∃ l : List Done, x = .sl 5 a m c ∧ Sl h (l.map Done.cs) a m ∧ m ≤ maxLen := by
  have hR : Try.prog.cellsOf 39 = 5 := by kernel_rfl
  have hx2 : TV Try.prog h (n + 4) 22 [x] := by
    unfold ArgV at hx; rw [Try.underlying22] at hx; exact hx
  obtain ⟨a, c, rs, e, h1, h2, h3⟩ := tv_slice Try.underlying22 hx2
  rw [hR] at e
  injection e with e _
  obtain ⟨l, rfl⟩ := rows_map fun r hr => tv_Done (h3 r hr)
  exact ⟨a, _, c, l, e, h1, h2⟩

theorem main_FnExactGuardFollow {x : V} (hx : ArgV Try.prog h 12 22 x) : ∃ h', evl h.length 3 [x] h = some (.bool true, h') := by
  obtain ⟨a, m, c, l, rfl, hs, hm⟩ := av_DoneS (n := 8) hx
  exact law_FnExactGuardFollow hs hm (Nat.le_refl _)
end
end Go.Proofs.Ytfknhpajlfiliaa
