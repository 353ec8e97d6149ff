/- The given statement 'Rows.FnGuardFollowSaid': whatever the input, the law 'FnGuardFollow' returns true and leaves its arguments as they were; no condition. -/
import Derived.Test.YtoocmbhkaghgnaaGreatBGg5
import Derived.Below
import Derived.Tactics
import Derived.Orders
import Derived.Laws.Sem
import Derived.Laws.World
import Derived.Laws.Cells
import Derived.Laws.StructEq
import Derived.Laws.Cover3
import Derived.Laws.BitsLemmas
import Derived.Laws.BytesString
import Derived.IntWalk
import Derived.Laws.Append
import Derived.Test.YtoocmbhkaghgnaaGreatProg
import Derived.KernelRfl
import Derived.ProofKit
import Derived.Laws.Strings
import Derived.Test.YtoocmbhkaghgnaaGreatRows
import Derived.JoinedOf
import Derived.WalkKit
import Derived.OpenShut
import Derived.ShutString
import Derived.ChangeOld
namespace Go.Proofs.YtoocmbhkaghgnaaGreat.fnGuardFollowDone
open Go Go.ChangeShapes Go.WideShapes Go.ChangeAt Go.RowKit T
open Go.ChangeMaps (open_string shut_string)
set_option linter.unusedVariables false

theorem own : ownKnob Tryz.prog.godebug = none := by kernel_rfl
theorem laidOut : laidOutB Tryz.prog = true := by kernel_rfl

set_option maxRecDepth 100000 in
theorem lifted (os : Os) (started : os.Started) (H : Type) (enc : TypeId × Value → H) :
    ReturnsInHanded {} Tryz.checked os 3 .any (Rows.fnGuardFollowSpec.pre6 enc Tryz.prog Tryz.f3 Rows.fnGuardFollowRow.domain false) (Rows.fnGuardFollowSpec.post enc Tryz.prog Tryz.f3 false true false false) := by
  refine returnsInHanded_of_change (C := Tryz.checked) own started (by kernel_rfl) Tryz.func3
    (ChangeSpec.witness6 (enc := enc) (C := Tryz.checked) false ⟨#[], #[.slice none 0 0], []⟩ 8 (by kernel_rfl) (by kernel_rfl) (by kernel_rfl) (by kernel_rfl)) ?_
  intro W base args ds gs before hval0 hW hcnd _
  have hval : ∀ (j : Nat) t v, Tryz.f3.params[j]? = some t → args[j]? = some v → Value.okWide Tryz.prog W .any base t v := hval0
  have hW' := hW
  obtain ⟨p, q, hA0, hV, rfl, hfz, hnd⟩ := hW
  have hA : DataW.TrodAll enc Tryz.prog W 0 (fun _ => true) true Tryz.f3.params.toList args.toList ds p := hA0
  rw [Tryz.params3] at hA hval
  obtain ⟨v0, vs0, d0, ds0, p0, q0, hargs, rfl, rfl, h0, r0⟩ := trodAll_cons hA
  obtain ⟨rfl, rfl, rfl⟩ := trodAll_nil r0
  obtain rfl : args = #[v0] := by cases args; simp_all
  obtain ⟨rfl, rfl⟩ := trodVars_none hV
  have lt0 : ∀ x ∈ p0, x.block < W.heap.size := by obtain ⟨m, hm⟩ := h0; exact DataW.trod_lt m _ _ _ hm
  obtain ⟨ρ0, g0, x0, l0, u0, i0, k0, a0⟩ := lays_arg (n := 12) (by kernel_rfl) (hval 0 22 v0 rfl rfl) h0 (imp_nil W)
  obtain ⟨h', hk⟩ := main_FnGuardFollow a0
  clear hA0 hval0
  refine (law_walk (f := 3) evl_sound hk (cargs := #[v0]) (VRs.cons k0 VRs.nil) i0).mono fun e W' ⟨he, bel⟩ => ?_
  subst he
  exact ⟨_, rfl, _, _, _, [], _, [], hW', trodAll_mk1 (shut_bool Tryz.underlying4 _), (trodAll_cons_mk (Below.trod laidOut (by kernel_rfl) (of_decide_eq_true (by kernel_rfl)) h0 bel lt0) trodAll_mk0), rfl, bel.frame _, fun h => by cases h⟩

theorem facts : joinedFacts Tryz.pinned.checked.prog 3 Tryz.f3 Rows.fnGuardFollowSpec Rows.fnGuardFollowRow = true := by
  unfold joinedFacts
  refine fx_split (fx_split (fx_split (fx_split (fx_split (fx_split (fx_split (fx_split (fx_split (fx_split (fx_split (fx_split (fx_split (fx_split (fx_split (fx_split (fx_split (fx_split (fx_split (fx_split (fx_split (fx_split (fx_split (fx_split (fx_split (fx_split (fx_split (fx_split (fx_split (fx_split (fx_split ?a1 ?a2) ?a3) ?a4) ?a5) ?a6) ?a7) ?a8) ?a9) ?a10) ?a11) ?a12) ?a13) ?a14) ?a15) ?a16) ?a17) ?a18) ?a19) ?a20) ?a21) ?a22) ?a23) ?a24) ?a25) ?a26) ?a27) ?a28) ?a29) ?a30) ?a31) ?a32
  case a1 => kernel_rfl
  case a2 => exact fx2
  case a3 => exact fx3
  case a4 => kernel_rfl
  case a5 => kernel_rfl
  case a6 => kernel_rfl
  case a7 => kernel_rfl
  case a8 => kernel_rfl
  case a9 => kernel_rfl
  case a10 => kernel_rfl
  case a11 => kernel_rfl
  case a12 => kernel_rfl
  case a13 => kernel_rfl
  case a14 => kernel_rfl
  case a15 => kernel_rfl
  case a16 => kernel_rfl
  case a17 => kernel_rfl
  case a18 => kernel_rfl
  case a19 => kernel_rfl
  case a20 => kernel_rfl
  case a21 => kernel_rfl
  case a22 => kernel_rfl
  case a23 => exact fx23
  case a24 => kernel_rfl
  case a25 => exact fx25
  case a26 => exact fx26
  case a27 => exact fx27
  case a28 => exact fx28
  case a29 => kernel_rfl
  case a30 => kernel_rfl
  case a31 => kernel_rfl
  case a32 => kernel_rfl
theorem proved : Rows.FnGuardFollowSaid :=
  OpenClaim.holds_of_wide 3 Tryz.f3 rfl rfl rfl rfl rfl rfl rfl ⟨rfl, rfl, rfl, rfl, rfl⟩ rfl rfl rfl rfl rfl (by kernel_rfl) Tryz.func3 facts
    (of_decide_eq_true (by kernel_rfl)) (by unfold Func.isWrapper; first | (rw [if_pos (by decide +kernel)]; kernel_rfl) | (rw [if_neg (by decide +kernel)]; exact ⟨rfl, rfl⟩))
    (fun os started H enc _ => lifted os started H enc)
end Go.Proofs.YtoocmbhkaghgnaaGreat.fnGuardFollowDone
namespace Go.Proofs.YtoocmbhkaghgnaaGreat
theorem fnGuardFollow_holds : Rows.FnGuardFollowSaid := fnGuardFollowDone.proved
end Go.Proofs.YtoocmbhkaghgnaaGreat
#print axioms Go.Proofs.YtoocmbhkaghgnaaGreat.fnGuardFollow_holds
