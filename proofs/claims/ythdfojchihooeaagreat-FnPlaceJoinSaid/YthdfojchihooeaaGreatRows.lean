/-
  No cell of these rows narrows 'for every input' (looked for: loops, veiled, ifaces, maps, wideKeys, modest, calm, conditions, laid).
  DERIVED. THE GIVEN ROWS OF THIS SEAT. 12 by the template 'for every input the law returns true; each argument reads behind the call as it read before'; 0 by the template 'total and deterministic' (their statements: YthdfojchihooeaaGreatTotals.lean).
  GIVEN WITH THE SEED: the statements are not yours to turn. If you find one false, say at which input.
  Laid BY PROGRAM, IN A SANDBOX (cutbox-rows.mjs): the forced cells as the released guide's own fill.sh prints them over the translation 4340e4d3f0384987… (all of the seat's roots in one cut). By AI agents, Wed Nov 11 2026. No macro, syntax, notation, axiom, sorry.
-/
import Derived.Test.YthdfojchihooeaaGreatChecked
import GoSem.Claim
import GoSem.ClaimJoined
import GoSem.ClaimMapViews
import Derived.JoinedTies
import Derived.KernelRfl
namespace Go.Proofs.YthdfojchihooeaaGreat
/- THE CELL 'sum', in the pinned program and in every row, IS THE sha256 OF THE DUMP (.gsa) THAT YthdfojchihooeaaGreatProg.lean LOADS. Nothing in Lean hashes anything: it is a label: what it is worth is what the hold of that sum in a sandbox is worth. -/
noncomputable def Tryz.pinned : Pinned := { name := "ythdfojchihooeaagreat", sum := "4340e4d3f03849875e3b7ce13ce8c4a219cff4a9ac6b9d9f24d4c28462436a13", checked := Tryz.checked }
namespace Rows
def none {H : Type} : Left H := { results := [], args := [] }

/-- 'laws.FnExactWorldNodes': WHATEVER THE INPUT: true; the input reads as it did. -/
def fnExactWorldNodesSpec : ChangeSpec := { name := "fnExactWorldNodes", fn := fun _ => fun
  | [d1, d2, d3] => { results := [.lit (.bool true)], args := [d1, d2, d3] }
  | _ => none }
def fnExactWorldNodesRow : OpenClaim := { program := "ythdfojchihooeaagreat", sum := "4340e4d3f03849875e3b7ce13ce8c4a219cff4a9ac6b9d9f24d4c28462436a13", func := "loop.example/confluence/laws.FnExactWorldNodes", spec := "fnExactWorldNodes", unfollowed := true, recurses := true, plainKeys := false, apart := false }
def FnExactWorldNodesSaid : Prop := fnExactWorldNodesRow.holds Tryz.pinned (OpenSpec.ofChange fnExactWorldNodesSpec)

/-- ITS FALSE NEIGHBOUR: 'it returns false'. Refute it at one input. -/
def fnExactWorldNodesWrong : ChangeSpec := { name := "fnExactWorldNodes", fn := fun _ => fun
  | [d1, d2, d3] => { results := [.lit (.bool false)], args := [d1, d2, d3] }
  | _ => none }
def FnExactWorldNodesWrongFalsely : Prop := fnExactWorldNodesRow.holds Tryz.pinned (OpenSpec.ofChange fnExactWorldNodesWrong)

/-- 'laws.FnExactWorldDo': WHATEVER THE INPUT: true; the input reads as it did. -/
def fnExactWorldDoSpec : ChangeSpec := { name := "fnExactWorldDo", fn := fun _ => fun
  | [d1, d2] => { results := [.lit (.bool true)], args := [d1, d2] }
  | _ => none }
def fnExactWorldDoRow : OpenClaim := { program := "ythdfojchihooeaagreat", sum := "4340e4d3f03849875e3b7ce13ce8c4a219cff4a9ac6b9d9f24d4c28462436a13", func := "loop.example/confluence/laws.FnExactWorldDo", spec := "fnExactWorldDo", unfollowed := true, recurses := true, plainKeys := false, apart := false }
def FnExactWorldDoSaid : Prop := fnExactWorldDoRow.holds Tryz.pinned (OpenSpec.ofChange fnExactWorldDoSpec)

/-- ITS FALSE NEIGHBOUR: 'it returns false'. Refute it at one input. -/
def fnExactWorldDoWrong : ChangeSpec := { name := "fnExactWorldDo", fn := fun _ => fun
  | [d1, d2] => { results := [.lit (.bool false)], args := [d1, d2] }
  | _ => none }
def FnExactWorldDoWrongFalsely : Prop := fnExactWorldDoRow.holds Tryz.pinned (OpenSpec.ofChange fnExactWorldDoWrong)

/-- 'laws.FnExactWorldSafe': WHATEVER THE INPUT: true; the input reads as it did. -/
def fnExactWorldSafeSpec : ChangeSpec := { name := "fnExactWorldSafe", fn := fun _ => fun
  | [d] => { results := [.lit (.bool true)], args := [d] }
  | _ => none }
def fnExactWorldSafeRow : OpenClaim := { program := "ythdfojchihooeaagreat", sum := "4340e4d3f03849875e3b7ce13ce8c4a219cff4a9ac6b9d9f24d4c28462436a13", func := "loop.example/confluence/laws.FnExactWorldSafe", spec := "fnExactWorldSafe", unfollowed := true, recurses := true, plainKeys := false, apart := false }
def FnExactWorldSafeSaid : Prop := fnExactWorldSafeRow.holds Tryz.pinned (OpenSpec.ofChange fnExactWorldSafeSpec)

/-- ITS FALSE NEIGHBOUR: 'it returns false'. Refute it at one input. -/
def fnExactWorldSafeWrong : ChangeSpec := { name := "fnExactWorldSafe", fn := fun _ => fun
  | [d] => { results := [.lit (.bool false)], args := [d] }
  | _ => none }
def FnExactWorldSafeWrongFalsely : Prop := fnExactWorldSafeRow.holds Tryz.pinned (OpenSpec.ofChange fnExactWorldSafeWrong)

/-- 'laws.FnChainShows': WHATEVER THE INPUT: true; the input reads as it did. -/
def fnChainShowsSpec : ChangeSpec := { name := "fnChainShows", fn := fun _ => fun
  | [d] => { results := [.lit (.bool true)], args := [d] }
  | _ => none }
def fnChainShowsRow : OpenClaim := { program := "ythdfojchihooeaagreat", sum := "4340e4d3f03849875e3b7ce13ce8c4a219cff4a9ac6b9d9f24d4c28462436a13", func := "loop.example/confluence/laws.FnChainShows", spec := "fnChainShows", unfollowed := true, recurses := true, plainKeys := false, apart := false }
def FnChainShowsSaid : Prop := fnChainShowsRow.holds Tryz.pinned (OpenSpec.ofChange fnChainShowsSpec)

/-- ITS FALSE NEIGHBOUR: 'it returns false'. Refute it at one input. -/
def fnChainShowsWrong : ChangeSpec := { name := "fnChainShows", fn := fun _ => fun
  | [d] => { results := [.lit (.bool false)], args := [d] }
  | _ => none }
def FnChainShowsWrongFalsely : Prop := fnChainShowsRow.holds Tryz.pinned (OpenSpec.ofChange fnChainShowsWrong)

/-- 'laws.FnChainFall': WHATEVER THE INPUT: true; the input reads as it did. -/
def fnChainFallSpec : ChangeSpec := { name := "fnChainFall", fn := fun _ => fun
  | [d] => { results := [.lit (.bool true)], args := [d] }
  | _ => none }
def fnChainFallRow : OpenClaim := { program := "ythdfojchihooeaagreat", sum := "4340e4d3f03849875e3b7ce13ce8c4a219cff4a9ac6b9d9f24d4c28462436a13", func := "loop.example/confluence/laws.FnChainFall", spec := "fnChainFall", unfollowed := true, recurses := true, plainKeys := false, apart := false }
def FnChainFallSaid : Prop := fnChainFallRow.holds Tryz.pinned (OpenSpec.ofChange fnChainFallSpec)

/-- ITS FALSE NEIGHBOUR: 'it returns false'. Refute it at one input. -/
def fnChainFallWrong : ChangeSpec := { name := "fnChainFall", fn := fun _ => fun
  | [d] => { results := [.lit (.bool false)], args := [d] }
  | _ => none }
def FnChainFallWrongFalsely : Prop := fnChainFallRow.holds Tryz.pinned (OpenSpec.ofChange fnChainFallWrong)

/-- 'laws.FnChainJoin': WHATEVER THE INPUT: true; the input reads as it did. -/
def fnChainJoinSpec : ChangeSpec := { name := "fnChainJoin", fn := fun _ => fun
  | [d] => { results := [.lit (.bool true)], args := [d] }
  | _ => none }
def fnChainJoinRow : OpenClaim := { program := "ythdfojchihooeaagreat", sum := "4340e4d3f03849875e3b7ce13ce8c4a219cff4a9ac6b9d9f24d4c28462436a13", func := "loop.example/confluence/laws.FnChainJoin", spec := "fnChainJoin", unfollowed := true, recurses := true, plainKeys := false, apart := false }
def FnChainJoinSaid : Prop := fnChainJoinRow.holds Tryz.pinned (OpenSpec.ofChange fnChainJoinSpec)

/-- ITS FALSE NEIGHBOUR: 'it returns false'. Refute it at one input. -/
def fnChainJoinWrong : ChangeSpec := { name := "fnChainJoin", fn := fun _ => fun
  | [d] => { results := [.lit (.bool false)], args := [d] }
  | _ => none }
def FnChainJoinWrongFalsely : Prop := fnChainJoinRow.holds Tryz.pinned (OpenSpec.ofChange fnChainJoinWrong)

/-- 'laws.FnPlaceHear': WHATEVER THE INPUT: true; the input reads as it did. -/
def fnPlaceHearSpec : ChangeSpec := { name := "fnPlaceHear", fn := fun _ => fun
  | [d] => { results := [.lit (.bool true)], args := [d] }
  | _ => none }
def fnPlaceHearRow : OpenClaim := { program := "ythdfojchihooeaagreat", sum := "4340e4d3f03849875e3b7ce13ce8c4a219cff4a9ac6b9d9f24d4c28462436a13", func := "loop.example/confluence/laws.FnPlaceHear", spec := "fnPlaceHear", unfollowed := true, recurses := true, plainKeys := false, apart := false }
def FnPlaceHearSaid : Prop := fnPlaceHearRow.holds Tryz.pinned (OpenSpec.ofChange fnPlaceHearSpec)

/-- ITS FALSE NEIGHBOUR: 'it returns false'. Refute it at one input. -/
def fnPlaceHearWrong : ChangeSpec := { name := "fnPlaceHear", fn := fun _ => fun
  | [d] => { results := [.lit (.bool false)], args := [d] }
  | _ => none }
def FnPlaceHearWrongFalsely : Prop := fnPlaceHearRow.holds Tryz.pinned (OpenSpec.ofChange fnPlaceHearWrong)

/-- 'laws.FnPlaceJoin': WHATEVER THE INPUT: true; the input reads as it did. -/
def fnPlaceJoinSpec : ChangeSpec := { name := "fnPlaceJoin", fn := fun _ => fun
  | [d] => { results := [.lit (.bool true)], args := [d] }
  | _ => none }
def fnPlaceJoinRow : OpenClaim := { program := "ythdfojchihooeaagreat", sum := "4340e4d3f03849875e3b7ce13ce8c4a219cff4a9ac6b9d9f24d4c28462436a13", func := "loop.example/confluence/laws.FnPlaceJoin", spec := "fnPlaceJoin", unfollowed := true, recurses := true, plainKeys := false, apart := false }
def FnPlaceJoinSaid : Prop := fnPlaceJoinRow.holds Tryz.pinned (OpenSpec.ofChange fnPlaceJoinSpec)

/-- ITS FALSE NEIGHBOUR: 'it returns false'. Refute it at one input. -/
def fnPlaceJoinWrong : ChangeSpec := { name := "fnPlaceJoin", fn := fun _ => fun
  | [d] => { results := [.lit (.bool false)], args := [d] }
  | _ => none }
def FnPlaceJoinWrongFalsely : Prop := fnPlaceJoinRow.holds Tryz.pinned (OpenSpec.ofChange fnPlaceJoinWrong)

/-- 'laws.FnPlaceTake': WHATEVER THE INPUT: true; the input reads as it did. -/
def fnPlaceTakeSpec : ChangeSpec := { name := "fnPlaceTake", fn := fun _ => fun
  | [d] => { results := [.lit (.bool true)], args := [d] }
  | _ => none }
def fnPlaceTakeRow : OpenClaim := { program := "ythdfojchihooeaagreat", sum := "4340e4d3f03849875e3b7ce13ce8c4a219cff4a9ac6b9d9f24d4c28462436a13", func := "loop.example/confluence/laws.FnPlaceTake", spec := "fnPlaceTake", unfollowed := true, recurses := true, plainKeys := false, apart := false }
def FnPlaceTakeSaid : Prop := fnPlaceTakeRow.holds Tryz.pinned (OpenSpec.ofChange fnPlaceTakeSpec)

/-- ITS FALSE NEIGHBOUR: 'it returns false'. Refute it at one input. -/
def fnPlaceTakeWrong : ChangeSpec := { name := "fnPlaceTake", fn := fun _ => fun
  | [d] => { results := [.lit (.bool false)], args := [d] }
  | _ => none }
def FnPlaceTakeWrongFalsely : Prop := fnPlaceTakeRow.holds Tryz.pinned (OpenSpec.ofChange fnPlaceTakeWrong)

/-- 'laws.FnPlacePass': WHATEVER THE INPUT: true; the input reads as it did. -/
def fnPlacePassSpec : ChangeSpec := { name := "fnPlacePass", fn := fun _ => fun
  | [d] => { results := [.lit (.bool true)], args := [d] }
  | _ => none }
def fnPlacePassRow : OpenClaim := { program := "ythdfojchihooeaagreat", sum := "4340e4d3f03849875e3b7ce13ce8c4a219cff4a9ac6b9d9f24d4c28462436a13", func := "loop.example/confluence/laws.FnPlacePass", spec := "fnPlacePass", unfollowed := true, recurses := true, plainKeys := false, apart := false }
def FnPlacePassSaid : Prop := fnPlacePassRow.holds Tryz.pinned (OpenSpec.ofChange fnPlacePassSpec)

/-- ITS FALSE NEIGHBOUR: 'it returns false'. Refute it at one input. -/
def fnPlacePassWrong : ChangeSpec := { name := "fnPlacePass", fn := fun _ => fun
  | [d] => { results := [.lit (.bool false)], args := [d] }
  | _ => none }
def FnPlacePassWrongFalsely : Prop := fnPlacePassRow.holds Tryz.pinned (OpenSpec.ofChange fnPlacePassWrong)

/-- 'laws.FnPlaceWrite': WHATEVER THE INPUT: true; the input reads as it did. -/
def fnPlaceWriteSpec : ChangeSpec := { name := "fnPlaceWrite", fn := fun _ => fun
  | [d] => { results := [.lit (.bool true)], args := [d] }
  | _ => none }
def fnPlaceWriteRow : OpenClaim := { program := "ythdfojchihooeaagreat", sum := "4340e4d3f03849875e3b7ce13ce8c4a219cff4a9ac6b9d9f24d4c28462436a13", func := "loop.example/confluence/laws.FnPlaceWrite", spec := "fnPlaceWrite", unfollowed := true, recurses := true, plainKeys := false, apart := false }
def FnPlaceWriteSaid : Prop := fnPlaceWriteRow.holds Tryz.pinned (OpenSpec.ofChange fnPlaceWriteSpec)

/-- ITS FALSE NEIGHBOUR: 'it returns false'. Refute it at one input. -/
def fnPlaceWriteWrong : ChangeSpec := { name := "fnPlaceWrite", fn := fun _ => fun
  | [d] => { results := [.lit (.bool false)], args := [d] }
  | _ => none }
def FnPlaceWriteWrongFalsely : Prop := fnPlaceWriteRow.holds Tryz.pinned (OpenSpec.ofChange fnPlaceWriteWrong)

/-- 'laws.FnWorldDo': WHATEVER THE INPUT: true; the input reads as it did. -/
def fnWorldDoSpec : ChangeSpec := { name := "fnWorldDo", fn := fun _ => fun
  | [d] => { results := [.lit (.bool true)], args := [d] }
  | _ => none }
def fnWorldDoRow : OpenClaim := { program := "ythdfojchihooeaagreat", sum := "4340e4d3f03849875e3b7ce13ce8c4a219cff4a9ac6b9d9f24d4c28462436a13", func := "loop.example/confluence/laws.FnWorldDo", spec := "fnWorldDo", unfollowed := true, recurses := true, plainKeys := false, apart := false }
def FnWorldDoSaid : Prop := fnWorldDoRow.holds Tryz.pinned (OpenSpec.ofChange fnWorldDoSpec)

/-- ITS FALSE NEIGHBOUR: 'it returns false'. Refute it at one input. -/
def fnWorldDoWrong : ChangeSpec := { name := "fnWorldDo", fn := fun _ => fun
  | [d] => { results := [.lit (.bool false)], args := [d] }
  | _ => none }
def FnWorldDoWrongFalsely : Prop := fnWorldDoRow.holds Tryz.pinned (OpenSpec.ofChange fnWorldDoWrong)

/- THE SECOND FORM. 'bulk': how many values and letters a reading holds, each counted each time it is reached (what is shared counts as often as it is met; a slice's spare places count too). A statement '..UptoSaid' is the law's where the arguments, and the package variables that the reading takes, are together of bulk at most 1048576: NARROWER than '..Said'. Prove '..Said' where nothing that the law and all that it calls make is longer than what came in: it says more and counts as full. Else prove '..UptoSaid'. A law counts once. -/
mutual
def uptoBulk {H : Type} : DataW H → Nat
  | .lit (.string bytes) => bytes.length + 1
  | .lit _ => 1
  | .nil => 1
  | .ptr d => uptoBulk d + 1
  | .slice elems spare => uptoBulkAll elems + uptoBulkAll spare + 1
  | .agg parts => uptoBulkAll parts + 1
  | .iface _ d => uptoBulk d + 1
  | .map entries => uptoBulkEntries entries + 1
  | .held _ => 1
def uptoBulkAll {H : Type} : List (DataW H) → Nat
  | [] => 0
  | d :: r => uptoBulk d + uptoBulkAll r
def uptoBulkEntries {H : Type} : List (Lit × DataW H) → Nat
  | [] => 0
  | x :: r => uptoBulkEntry x + uptoBulkEntries r
def uptoBulkEntry {H : Type} : Lit × DataW H → Nat
  | (.string bytes, d) => bytes.length + uptoBulk d + 1
  | (_, d) => uptoBulk d + 1
 end
def uptoSmall : (H : Type) → List (DataW H) → Bool := fun _ ds => decide (uptoBulkAll ds ≤ 1048576)
def OpenSpec.upto (s : _root_.Go.ChangeSpec) : _root_.Go.OpenSpec := { _root_.Go.OpenSpec.ofChange s with cond := some uptoSmall }

/-- 'laws.FnExactWorldNodes', WHERE WHAT IT READS IS OF BULK AT MOST 1048576: true; the input reads as it did. -/
def fnExactWorldNodesUptoRow : OpenClaim := { program := "ythdfojchihooeaagreat", sum := "4340e4d3f03849875e3b7ce13ce8c4a219cff4a9ac6b9d9f24d4c28462436a13", func := "loop.example/confluence/laws.FnExactWorldNodes", spec := "fnExactWorldNodes", unfollowed := true, recurses := true, plainKeys := false, apart := false, narrowed := true }
def FnExactWorldNodesUptoSaid : Prop := fnExactWorldNodesUptoRow.holds Tryz.pinned (OpenSpec.upto fnExactWorldNodesSpec)

/-- 'laws.FnExactWorldDo', WHERE WHAT IT READS IS OF BULK AT MOST 1048576: true; the input reads as it did. -/
def fnExactWorldDoUptoRow : OpenClaim := { program := "ythdfojchihooeaagreat", sum := "4340e4d3f03849875e3b7ce13ce8c4a219cff4a9ac6b9d9f24d4c28462436a13", func := "loop.example/confluence/laws.FnExactWorldDo", spec := "fnExactWorldDo", unfollowed := true, recurses := true, plainKeys := false, apart := false, narrowed := true }
def FnExactWorldDoUptoSaid : Prop := fnExactWorldDoUptoRow.holds Tryz.pinned (OpenSpec.upto fnExactWorldDoSpec)

/-- 'laws.FnExactWorldSafe', WHERE WHAT IT READS IS OF BULK AT MOST 1048576: true; the input reads as it did. -/
def fnExactWorldSafeUptoRow : OpenClaim := { program := "ythdfojchihooeaagreat", sum := "4340e4d3f03849875e3b7ce13ce8c4a219cff4a9ac6b9d9f24d4c28462436a13", func := "loop.example/confluence/laws.FnExactWorldSafe", spec := "fnExactWorldSafe", unfollowed := true, recurses := true, plainKeys := false, apart := false, narrowed := true }
def FnExactWorldSafeUptoSaid : Prop := fnExactWorldSafeUptoRow.holds Tryz.pinned (OpenSpec.upto fnExactWorldSafeSpec)

/-- 'laws.FnChainShows', WHERE WHAT IT READS IS OF BULK AT MOST 1048576: true; the input reads as it did. -/
def fnChainShowsUptoRow : OpenClaim := { program := "ythdfojchihooeaagreat", sum := "4340e4d3f03849875e3b7ce13ce8c4a219cff4a9ac6b9d9f24d4c28462436a13", func := "loop.example/confluence/laws.FnChainShows", spec := "fnChainShows", unfollowed := true, recurses := true, plainKeys := false, apart := false, narrowed := true }
def FnChainShowsUptoSaid : Prop := fnChainShowsUptoRow.holds Tryz.pinned (OpenSpec.upto fnChainShowsSpec)

/-- 'laws.FnChainFall', WHERE WHAT IT READS IS OF BULK AT MOST 1048576: true; the input reads as it did. -/
def fnChainFallUptoRow : OpenClaim := { program := "ythdfojchihooeaagreat", sum := "4340e4d3f03849875e3b7ce13ce8c4a219cff4a9ac6b9d9f24d4c28462436a13", func := "loop.example/confluence/laws.FnChainFall", spec := "fnChainFall", unfollowed := true, recurses := true, plainKeys := false, apart := false, narrowed := true }
def FnChainFallUptoSaid : Prop := fnChainFallUptoRow.holds Tryz.pinned (OpenSpec.upto fnChainFallSpec)

/-- 'laws.FnChainJoin', WHERE WHAT IT READS IS OF BULK AT MOST 1048576: true; the input reads as it did. -/
def fnChainJoinUptoRow : OpenClaim := { program := "ythdfojchihooeaagreat", sum := "4340e4d3f03849875e3b7ce13ce8c4a219cff4a9ac6b9d9f24d4c28462436a13", func := "loop.example/confluence/laws.FnChainJoin", spec := "fnChainJoin", unfollowed := true, recurses := true, plainKeys := false, apart := false, narrowed := true }
def FnChainJoinUptoSaid : Prop := fnChainJoinUptoRow.holds Tryz.pinned (OpenSpec.upto fnChainJoinSpec)

/-- 'laws.FnPlaceHear', WHERE WHAT IT READS IS OF BULK AT MOST 1048576: true; the input reads as it did. -/
def fnPlaceHearUptoRow : OpenClaim := { program := "ythdfojchihooeaagreat", sum := "4340e4d3f03849875e3b7ce13ce8c4a219cff4a9ac6b9d9f24d4c28462436a13", func := "loop.example/confluence/laws.FnPlaceHear", spec := "fnPlaceHear", unfollowed := true, recurses := true, plainKeys := false, apart := false, narrowed := true }
def FnPlaceHearUptoSaid : Prop := fnPlaceHearUptoRow.holds Tryz.pinned (OpenSpec.upto fnPlaceHearSpec)

/-- 'laws.FnPlaceJoin', WHERE WHAT IT READS IS OF BULK AT MOST 1048576: true; the input reads as it did. -/
def fnPlaceJoinUptoRow : OpenClaim := { program := "ythdfojchihooeaagreat", sum := "4340e4d3f03849875e3b7ce13ce8c4a219cff4a9ac6b9d9f24d4c28462436a13", func := "loop.example/confluence/laws.FnPlaceJoin", spec := "fnPlaceJoin", unfollowed := true, recurses := true, plainKeys := false, apart := false, narrowed := true }
def FnPlaceJoinUptoSaid : Prop := fnPlaceJoinUptoRow.holds Tryz.pinned (OpenSpec.upto fnPlaceJoinSpec)

/-- 'laws.FnPlaceTake', WHERE WHAT IT READS IS OF BULK AT MOST 1048576: true; the input reads as it did. -/
def fnPlaceTakeUptoRow : OpenClaim := { program := "ythdfojchihooeaagreat", sum := "4340e4d3f03849875e3b7ce13ce8c4a219cff4a9ac6b9d9f24d4c28462436a13", func := "loop.example/confluence/laws.FnPlaceTake", spec := "fnPlaceTake", unfollowed := true, recurses := true, plainKeys := false, apart := false, narrowed := true }
def FnPlaceTakeUptoSaid : Prop := fnPlaceTakeUptoRow.holds Tryz.pinned (OpenSpec.upto fnPlaceTakeSpec)

/-- 'laws.FnPlacePass', WHERE WHAT IT READS IS OF BULK AT MOST 1048576: true; the input reads as it did. -/
def fnPlacePassUptoRow : OpenClaim := { program := "ythdfojchihooeaagreat", sum := "4340e4d3f03849875e3b7ce13ce8c4a219cff4a9ac6b9d9f24d4c28462436a13", func := "loop.example/confluence/laws.FnPlacePass", spec := "fnPlacePass", unfollowed := true, recurses := true, plainKeys := false, apart := false, narrowed := true }
def FnPlacePassUptoSaid : Prop := fnPlacePassUptoRow.holds Tryz.pinned (OpenSpec.upto fnPlacePassSpec)

/-- 'laws.FnPlaceWrite', WHERE WHAT IT READS IS OF BULK AT MOST 1048576: true; the input reads as it did. -/
def fnPlaceWriteUptoRow : OpenClaim := { program := "ythdfojchihooeaagreat", sum := "4340e4d3f03849875e3b7ce13ce8c4a219cff4a9ac6b9d9f24d4c28462436a13", func := "loop.example/confluence/laws.FnPlaceWrite", spec := "fnPlaceWrite", unfollowed := true, recurses := true, plainKeys := false, apart := false, narrowed := true }
def FnPlaceWriteUptoSaid : Prop := fnPlaceWriteUptoRow.holds Tryz.pinned (OpenSpec.upto fnPlaceWriteSpec)

/-- 'laws.FnWorldDo', WHERE WHAT IT READS IS OF BULK AT MOST 1048576: true; the input reads as it did. -/
def fnWorldDoUptoRow : OpenClaim := { program := "ythdfojchihooeaagreat", sum := "4340e4d3f03849875e3b7ce13ce8c4a219cff4a9ac6b9d9f24d4c28462436a13", func := "loop.example/confluence/laws.FnWorldDo", spec := "fnWorldDo", unfollowed := true, recurses := true, plainKeys := false, apart := false, narrowed := true }
def FnWorldDoUptoSaid : Prop := fnWorldDoUptoRow.holds Tryz.pinned (OpenSpec.upto fnWorldDoSpec)

end Rows
end Go.Proofs.YthdfojchihooeaaGreat
