/- The given statement 'Rows.FnExactJourNewSaid': whatever the input, the law 'FnExactJourNew' returns true and leaves its arguments as they were; no condition. -/
import Derived.Test.YtfbhdjkeofleiaaDoorPlXa
import Derived.Test.YtfbhdjkeofleiaaDoorRows
import Derived.Test.YtfbhdjkeofleiaaDoorCards
import Derived.Test.YtfbhdjkeofleiaaDoorTie
import Derived.LaidLaws
import Derived.Lay
import Derived.LaidHandle
import Derived.Stop.Joined
import Derived.SevenTiedAt
import Derived.ChangeSame
import Derived.ChangeVars
import Derived.Test.YtfbhdjkeofleiaaDoorFx
import Derived.WalkKit
import Derived.ProofKit
import Derived.OpenShut
import Derived.ShutString
import Derived.ChangeOld
import Derived.Below
namespace Go.Proofs.YtfbhdjkeofleiaaDoor.fnExactJourNewDone
open Go Go.ChangeShapes Go.WideShapes Go.ChangeAt Go.RowKit T
open Go.ChangeMaps (open_string shut_string)
set_option linter.unusedVariables false

theorem own : ownKnob Tryd.prog.godebug = none := by kernel_rfl
theorem laidOut : laidOutB Tryd.prog = true := by kernel_rfl

set_option maxRecDepth 100000 in
theorem lifted (os : Os) (started : os.Started) (H : Type) (enc : TypeId × Value → H) :
    ReturnsInHanded {} Tryd.checked os 3 .any (fun w args => (Rows.fnExactJourNewSpec.pre enc Tryd.prog Tryd.f3 [] false w args ∧ laidMetH Tryd.prog Rows.fnExactJourNewRow.laid w) ∧ sizedMet enc Tryd.prog Tryd.f3 (OpenSpec.ofChange Rows.fnExactJourNewSpec) false w args) (Rows.fnExactJourNewSpec.post enc Tryd.prog Tryd.f3 false true false false) := by
  refine returnsInHanded_of_change_and (C := Tryd.checked) (X := fun w _ => laidMetH Tryd.prog Rows.fnExactJourNewRow.laid w) (fun _ _ _ hh h => h.of_heap hh) own started (by kernel_rfl) Tryd.func3
    (ChangeSpec.witness_at (enc := enc) (C := Tryd.checked) (os := os) (X := fun w _ => laidMetH Tryd.prog Rows.fnExactJourNewRow.laid w) false (World.laidAll Tryd.prog os Rows.fnExactJourNewRow.laid) #[.int .i64 0, .int .i64 0] 8 (World.laidAll_os _ _ _) (by kernel_rfl) (by kernel_rfl) (by kernel_rfl) (by kernel_rfl) (by kernel_rfl)
      (by rw [MakeChecks.laidMetH_plain _ _ _ (by kernel_rfl)]; exact laidMet_laidAll _ (by kernel_rfl) (by kernel_rfl))) ?_
  intro W base args ds gs before hval0 hW _ _ hL _
  have hval : ∀ (j : Nat) t v, Tryd.f3.params[j]? = some t → args[j]? = some v → Value.okWide Tryd.prog W .any base t v := hval0
  have hW' := hW
  obtain ⟨p, q, hA0, hV, rfl, hfz, hnd⟩ := hW
  have hA : DataW.TrodAll enc Tryd.prog W 0 (fun _ => true) true Tryd.f3.params.toList args.toList ds p := hA0
  rw [Tryd.params3] at hA hval
  obtain ⟨v0, vs0, d0, ds0, p0, q0, hargs, rfl, rfl, h0, r0⟩ := trodAll_cons hA
  obtain ⟨v1, vs1, d1, ds1, p1, q1, rfl, rfl, rfl, h1, r1⟩ := trodAll_cons r0
  obtain ⟨rfl, rfl, rfl⟩ := trodAll_nil r1
  obtain rfl : args = #[v0, v1] := by cases args; simp_all
  obtain ⟨rfl, rfl⟩ := trodVars_none hV
  have lt0 : ∀ x ∈ p0, x.block < W.heap.size := by obtain ⟨m, hm⟩ := h0; exact DataW.trod_lt m _ _ _ hm
  have lt1 : ∀ x ∈ p1, x.block < W.heap.size := by obtain ⟨m, hm⟩ := h1; exact DataW.trod_lt m _ _ _ hm
  obtain ⟨ρ0, g0, x0, l0, u0, i0, k0, a0⟩ := lays_arg (n := 12) (by kernel_rfl) (hval 0 3 v0 rfl rfl) h0 (imp_nil W)
  obtain ⟨ρ1, g1, x1, l1, u1, i1, k1, a1⟩ := lays_arg (n := 12) (by kernel_rfl) (hval 1 3 v1 rfl rfl) h1 i0
  obtain ⟨h', hk⟩ := main_FnExactJourNew (ArgV.mono u1 a0) a1
  clear hA0 hval0
  refine (law_walk (f := 3) evl_sound hk (cargs := #[v0, v1]) (VRs.cons (VR.mono l1 _ _ k0) (VRs.cons k1 VRs.nil)) i1).mono fun e W' ⟨he, bel⟩ => ?_
  subst he
  exact ⟨_, rfl, _, _, _, [], _, [], hW', trodAll_mk1 (shut_bool Tryd.underlying4 _), (trodAll_cons_mk (Below.trod laidOut (by kernel_rfl) (of_decide_eq_true (by kernel_rfl)) h0 bel lt0) (trodAll_cons_mk (Below.trod laidOut (by kernel_rfl) (of_decide_eq_true (by kernel_rfl)) h1 bel lt1) trodAll_mk0)), rfl, bel.frame _, fun h => by cases h⟩

theorem facts : joinedFacts Tryd.pinned.checked.prog 3 Tryd.f3 Rows.fnExactJourNewSpec Rows.fnExactJourNewRow = true := by
  unfold joinedFacts
  refine fx_split (fx_split (fx_split (fx_split (fx_split (fx_split (fx_split (fx_split (fx_split (fx_split (fx_split (fx_split (fx_split (fx_split (fx_split (fx_split (fx_split (fx_split (fx_split (fx_split (fx_split (fx_split (fx_split (fx_split (fx_split (fx_split (fx_split (fx_split (fx_split (fx_split (fx_split ?a1 ?a2) ?a3) ?a4) ?a5) ?a6) ?a7) ?a8) ?a9) ?a10) ?a11) ?a12) ?a13) ?a14) ?a15) ?a16) ?a17) ?a18) ?a19) ?a20) ?a21) ?a22) ?a23) ?a24) ?a25) ?a26) ?a27) ?a28) ?a29) ?a30) ?a31) ?a32
  case a1 => kernel_rfl
  case a2 => exact fx2
  case a3 => exact fx3
  case a4 => kernel_rfl
  case a5 => kernel_rfl
  case a6 => kernel_rfl
  case a7 => kernel_rfl
  case a8 => kernel_rfl
  case a9 => kernel_rfl
  case a10 => kernel_rfl
  case a11 => kernel_rfl
  case a12 => kernel_rfl
  case a13 => kernel_rfl
  case a14 => kernel_rfl
  case a15 => kernel_rfl
  case a16 => kernel_rfl
  case a17 => kernel_rfl
  case a18 => kernel_rfl
  case a19 => kernel_rfl
  case a20 => kernel_rfl
  case a21 => kernel_rfl
  case a22 => kernel_rfl
  case a23 => exact fx23
  case a24 => kernel_rfl
  case a25 => exact fx25
  case a26 => exact fx26
  case a27 => exact fx27
  case a28 => exact fx28
  case a29 => kernel_rfl
  case a30 => kernel_rfl
  case a31 => kernel_rfl
  case a32 => kernel_rfl
theorem proved : Rows.FnExactJourNewSaid :=
  OpenClaim.holds_of_wide 3 Tryd.f3 rfl rfl rfl rfl rfl rfl rfl ⟨rfl, rfl, rfl, rfl, rfl⟩ rfl rfl rfl rfl rfl (by kernel_rfl) Tryd.func3 facts
    (of_decide_eq_true (by kernel_rfl)) (by unfold Func.isWrapper; first | (rw [if_pos (by decide +kernel)]; kernel_rfl) | (rw [if_neg (by decide +kernel)]; exact ⟨rfl, rfl⟩))
    (fun os started H enc _ => lifted os started H enc)
end Go.Proofs.YtfbhdjkeofleiaaDoor.fnExactJourNewDone
namespace Go.Proofs.YtfbhdjkeofleiaaDoor
theorem fnExactJourNew_holds : Rows.FnExactJourNewSaid := fnExactJourNewDone.proved
theorem fnExactJourNewCard_holds : Rows.FnExactJourNewCardSaid :=
  Claim7.holds_tied_plain_at .later [] [.data, .data, .data] true (true, "4f3122004f75afc0b7a189e25c280c083313c3f76bd6f79eae190672d475ec8d") false fnExactJourNew_holds (fun _ h => by cases h) (by kernel_rfl) (fun _ h => by cases h) fnExactJourNew_row_tie rfl ⟨rfl, rfl⟩ (by kernel_rfl) rfl
    (fun f fn hf hfn => by
      obtain rfl : f = 3 := Option.some.inj ((show Tryd.prog.funcNamed "loop.example/confluence/laws.FnExactJourNew" = some 3 by kernel_rfl).symm.trans hf) |>.symm
      obtain rfl : fn = Tryd.f3 := (Option.some.inj (Tryd.func3.symm.trans hfn)).symm
      exact ⟨by kernel_rfl, fun j t ht => by
        rw [Tryd.params3] at ht
        have hm : t ∈ [3, 3] := by simpa using Array.mem_of_getElem? ht
        have hall : ([3, 3].all fun u => !Tryd.prog.wantsStandIn u) = true := by kernel_rfl
        exact (show Tryd.prog.wantsStandIn t = false by simpa using List.all_eq_true.1 hall t hm)⟩) (by kernel_rfl)
end Go.Proofs.YtfbhdjkeofleiaaDoor
#print axioms Go.Proofs.YtfbhdjkeofleiaaDoor.fnExactJourNewCard_holds
