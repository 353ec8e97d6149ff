/- A new journal: the law FnExactJourNew. -/
import Derived.Test.YtfbhdjkeofleiaaDoorPlA
import Derived.Test.YtfbhdjkeofleiaaDoorEqs
import Derived.Test.YtfbhdjkeofleiaaDoorTeeZd
namespace Go.Proofs.YtfbhdjkeofleiaaDoor
open Go T
set_option linter.unusedVariables false
set_option linter.unusedSimpArgs false
set_option maxRecDepth 100000
def within (n a b : Int) : Bool := decide (a ≤ n) && decide (n ≤ b)
theorem rows_lit {R : Type} {sz e : Nat} {ro : Bool} {h : Heap} {row : List V} {c : Option Nat} {K : List (List V) → Option R} : rowsOf sz (h ++ [.rows sz e ro [row]]) (.sl sz (some (h.length, 0)) 1 c) K = K [row] := by
  simp [rowsOf, ldRows, rows_last, need]
section
variable {lo : Nat} {h : Heap} {a b c : Int}
theorem impl_within : evl lo 11 [.int .i64 a, .int .i64 b, .int .i64 c] h = some (.bool (within a b c), h) :=
  E_impl_within (h' := h) (by simp [within])
theorem spec_l1In : evl lo 6 [.int .i64 a, .int .i64 b, .int .i64 c] h = some (.bool (within a b c), h) :=
  E_spec_l1In (h' := h) (by simp [within])
theorem impl_placeOk : evl lo 8 [.int .i64 a] h = some (.bool (within a 0 2), h) := E_impl_placeOk (h' := h) (by simp [impl_within])
theorem impl_nodesOk : evl lo 9 [.int .i64 a] h = some (.bool (within a 1 4), h) := E_impl_nodesOk (h' := h) (by simp [impl_within])
def fig (n : Nat) : ByteArray := ⟨⟨[UInt8.ofNat (48 + n)]⟩⟩
theorem itoa_of {s : ByteArray} (h1 : decide ((0 : Int) ≤ a) = true) (h2 : decide (a < (100 : Int)) = true) (hs : ∀ lo, evl lo 14 [.int .i64 a] h = some (.str s, h)) : evl lo 10 [.int .i64 a] h = some (.str s, h) := by
  have e1 : evl lo 13 [.int .i64 a, .int .i64 10] h = some (.str s, h) := E_internal_strconv_FormatInt (by rw [show ((10 : Int) == (10 : Int)) = true from rfl, br_t, h1, br_t, h2, br_t, hs, cal_s, eT_s])
  have e2 : evl lo 12 [.int .i64 a] h = some (.str s, h) := E_internal_strconv_Itoa (by rw [e1, cal_s, eT_s])
  exact E_strconv_Itoa (by rw [e2, cal_s, eT_s])
theorem dec_fig (n : Nat) (hn : n ≤ 4) : evl lo 7 [.int .i64 (n : Int)] h = some (.str (fig n), h) ∧ evl lo 10 [.int .i64 (n : Int)] h = some (.str (fig n), h) := by
  refine ⟨E_spec_l1Dec (h' := h ++ [.rows 1 5 false [[.int .u8 (IntKind.wrap .u8 (IntKind.wrap .i64 (48 + (n : Int))))]]]) ?_, itoa_of (by simp) (by simp; omega) fun lo => E_internal_strconv_small (h' := h) ?_⟩
  · rw [br_neg (by omega), br_neg (by omega), br_pos (by omega), rows_lit]
    obtain rfl | rfl | rfl | rfl | rfl : n = 0 ∨ n = 1 ∨ n = 2 ∨ n = 3 ∨ n = 4 := by omega
    all_goals rfl
  · rw [br_pos (by omega)]
    obtain rfl | rfl | rfl | rfl | rfl : n = 0 ∨ n = 1 ∨ n = 2 ∨ n = 3 ∨ n = 4 := by omega
    all_goals rfl
theorem fig_size {n : Nat} : (fig n).size = 1 := rfl
theorem both_JourNew : ∃ s, evl lo 4 [.int .i64 a, .int .i64 b] h = some (.str s, h) ∧ evl lo 5 [.int .i64 a, .int .i64 b] h = some (.str s, h) := by
  cases h1 : within a 0 2 with
  | false => exact ⟨⟨⟨[]⟩⟩, E_spec_JourNew (h' := h) (by rw [spec_l1In, h1, cal_s, eB_b, br_f]), E_impl_JourNew (by rw [impl_placeOk, h1, cal_s, eB_b, br_f])⟩
  | true =>
  cases h2 : within b 1 4 with
  | false => exact ⟨⟨⟨[]⟩⟩, E_spec_JourNew (h' := h) (by rw [spec_l1In, h1, cal_s, eB_b, br_t, spec_l1In, h2, cal_s, eB_b, br_f]), E_impl_JourNew (by rw [impl_placeOk, h1, cal_s, eB_b, br_t, impl_nodesOk, h2, cal_s, eB_b, br_f])⟩
  | true =>
  have g1 := h1
  have g2 := h2
  simp only [within, Bool.and_eq_true, decide_eq_true_eq] at g1 g2
  obtain ⟨n, rfl⟩ : ∃ n : Nat, a = (n : Int) := ⟨a.toNat, by omega⟩
  obtain ⟨m, rfl⟩ : ∃ m : Nat, b = (m : Int) := ⟨b.toNat, by omega⟩
  obtain ⟨d1, i1⟩ := dec_fig (lo := h.length) (h := h) n (by omega)
  obtain ⟨d2, i2⟩ := dec_fig (lo := h.length) (h := h) m (by omega)
  obtain ⟨_, j1⟩ := dec_fig (lo := lo) (h := h) n (by omega)
  obtain ⟨_, j2⟩ := dec_fig (lo := lo) (h := h) m (by omega)
  have z1 : (fig n).size + (⟨⟨[32]⟩⟩ : ByteArray).size ≤ 9223372036854775807 := by show 1 + 1 ≤ _; omega
  have s2 : (fig n ++ (⟨⟨[32]⟩⟩ : ByteArray)).size = 2 := by rw [ByteArray.size_append]; rfl
  have z2 : (fig n ++ (⟨⟨[32]⟩⟩ : ByteArray)).size + (fig m).size ≤ 9223372036854775807 := by rw [s2, fig_size]; omega
  have s3 : (fig n ++ (⟨⟨[32]⟩⟩ : ByteArray) ++ fig m).size = 3 := by rw [ByteArray.size_append, s2, fig_size]
  have z3 : (fig n ++ (⟨⟨[32]⟩⟩ : ByteArray) ++ fig m).size + (⟨⟨[10]⟩⟩ : ByteArray).size ≤ 9223372036854775807 := by rw [s3]; show 3 + 1 ≤ _; omega
  exact ⟨fig n ++ (⟨⟨[32]⟩⟩ : ByteArray) ++ fig m ++ (⟨⟨[10]⟩⟩ : ByteArray), E_spec_JourNew (h' := h) (by rw [spec_l1In, h1, cal_s, eB_b, br_t, spec_l1In, h2, cal_s, eB_b, br_t, d1, cal_s, eT_s, cat_of z1, d2, cal_s, eT_s, cat_of z2, cat_of z3]),
    E_impl_JourNew (by rw [impl_placeOk, h1, cal_s, eB_b, br_t, impl_nodesOk, h2, cal_s, eB_b, br_t, j1, cal_s, eT_s, cat_of z1, j2, cal_s, eT_s, cat_of z2, cat_of z3])⟩
theorem tv_int {n t : Nat} {xs : List V} (hu : Tryd.prog.underlying t = some (.int .i64)) (hx : TV Tryd.prog h (n + 1) t xs) : ∃ i : Int, xs = [.int .i64 i] := by
  simp only [TV, hu] at hx
  obtain ⟨i, h1, h2⟩ := hx
  exact ⟨i, h1⟩
theorem av_int {n : Nat} {x : V} (hx : ArgV Tryd.prog h (n + 1) 3 x) : ∃ i : Int, x = .int .i64 i := by
  obtain ⟨i, hi⟩ := tv_int (t := 3) Tryd.underlying3 (by unfold ArgV at hx; rw [Tryd.underlying3] at hx; exact hx)
  injection hi with hi _
  exact ⟨i, hi⟩
theorem main_FnExactJourNew {x y : V} (hx : ArgV Tryd.prog h 12 3 x) (hy : ArgV Tryd.prog h 12 3 y) : ∃ h', evl h.length 3 [x, y] h = some (.bool true, h') := by
  obtain ⟨i, rfl⟩ := av_int (n := 11) hx
  obtain ⟨j, rfl⟩ := av_int (n := 11) hy
  obtain ⟨s, e1, e2⟩ := both_JourNew (lo := h.length) (h := h) (a := i) (b := j)
  exact ⟨h, E_laws_FnExactJourNew (by rw [e1, cal_s, eT_s, e2, cal_s, eT_s, beq_self_eq_true, br_t])⟩
end
end Go.Proofs.YtfbhdjkeofleiaaDoor
