/-
  No cell of these rows narrows 'for every input' (looked for: loops, veiled, ifaces, maps, wideKeys, modest, calm, conditions, laid).
  DERIVED. THE GIVEN ROWS OF THIS SEAT. 12 by the template 'for every input the law returns true; each argument reads behind the call as it read before'; 0 by the template 'total and deterministic' (their statements: YtoihoaaiadagaaaGreatTotals.lean).
  GIVEN WITH THE SEED: the statements are not yours to turn. If you find one false, say at which input.
  Laid BY PROGRAM, IN A SANDBOX (cutbox-rows.mjs): the forced cells as the released guide's own fill.sh prints them over the translation 675091a6e9327442… (all of the seat's roots in one cut). By AI agents, Wed Nov 11 2026. No macro, syntax, notation, axiom, sorry.
-/
import Derived.Test.YtoihoaaiadagaaaGreatChecked
import GoSem.Claim
import GoSem.ClaimJoined
import GoSem.ClaimMapViews
import Derived.JoinedTies
import Derived.KernelRfl
namespace Go.Proofs.YtoihoaaiadagaaaGreat
/- THE CELL 'sum', in the pinned program and in every row, IS THE sha256 OF THE DUMP (.gsa) THAT YtoihoaaiadagaaaGreatProg.lean LOADS. Nothing in Lean hashes anything: it is a label: what it is worth is what the hold of that sum in a sandbox is worth. -/
noncomputable def Tryz.pinned : Pinned := { name := "ytoihoaaiadagaaagreat", sum := "675091a6e932744269d2d0faa624d03def8609b3926b277bded48ddfd00af8e5", checked := Tryz.checked }
namespace Rows
def none {H : Type} : Left H := { results := [], args := [] }

/-- 'laws.FnChainShows': WHATEVER THE INPUT: true; the input reads as it did. -/
def fnChainShowsSpec : ChangeSpec := { name := "fnChainShows", fn := fun _ => fun
  | [d] => { results := [.lit (.bool true)], args := [d] }
  | _ => none }
def fnChainShowsRow : OpenClaim := { program := "ytoihoaaiadagaaagreat", sum := "675091a6e932744269d2d0faa624d03def8609b3926b277bded48ddfd00af8e5", func := "loop.example/confluence/laws.FnChainShows", spec := "fnChainShows", unfollowed := true, recurses := true, apart := false }
def FnChainShowsSaid : Prop := fnChainShowsRow.holds Tryz.pinned (OpenSpec.ofChange fnChainShowsSpec)

/-- ITS FALSE NEIGHBOUR: 'it returns false'. Refute it at one input. -/
def fnChainShowsWrong : ChangeSpec := { name := "fnChainShows", fn := fun _ => fun
  | [d] => { results := [.lit (.bool false)], args := [d] }
  | _ => none }
def FnChainShowsWrongFalsely : Prop := fnChainShowsRow.holds Tryz.pinned (OpenSpec.ofChange fnChainShowsWrong)

/-- 'laws.FnPlaceHear': WHATEVER THE INPUT: true; the input reads as it did. -/
def fnPlaceHearSpec : ChangeSpec := { name := "fnPlaceHear", fn := fun _ => fun
  | [d] => { results := [.lit (.bool true)], args := [d] }
  | _ => none }
def fnPlaceHearRow : OpenClaim := { program := "ytoihoaaiadagaaagreat", sum := "675091a6e932744269d2d0faa624d03def8609b3926b277bded48ddfd00af8e5", func := "loop.example/confluence/laws.FnPlaceHear", spec := "fnPlaceHear", unfollowed := true, recurses := true, apart := false }
def FnPlaceHearSaid : Prop := fnPlaceHearRow.holds Tryz.pinned (OpenSpec.ofChange fnPlaceHearSpec)

/-- ITS FALSE NEIGHBOUR: 'it returns false'. Refute it at one input. -/
def fnPlaceHearWrong : ChangeSpec := { name := "fnPlaceHear", fn := fun _ => fun
  | [d] => { results := [.lit (.bool false)], args := [d] }
  | _ => none }
def FnPlaceHearWrongFalsely : Prop := fnPlaceHearRow.holds Tryz.pinned (OpenSpec.ofChange fnPlaceHearWrong)

/-- 'laws.FnPlaceTake': WHATEVER THE INPUT: true; the input reads as it did. -/
def fnPlaceTakeSpec : ChangeSpec := { name := "fnPlaceTake", fn := fun _ => fun
  | [d] => { results := [.lit (.bool true)], args := [d] }
  | _ => none }
def fnPlaceTakeRow : OpenClaim := { program := "ytoihoaaiadagaaagreat", sum := "675091a6e932744269d2d0faa624d03def8609b3926b277bded48ddfd00af8e5", func := "loop.example/confluence/laws.FnPlaceTake", spec := "fnPlaceTake", unfollowed := true, recurses := true, apart := false }
def FnPlaceTakeSaid : Prop := fnPlaceTakeRow.holds Tryz.pinned (OpenSpec.ofChange fnPlaceTakeSpec)

/-- ITS FALSE NEIGHBOUR: 'it returns false'. Refute it at one input. -/
def fnPlaceTakeWrong : ChangeSpec := { name := "fnPlaceTake", fn := fun _ => fun
  | [d] => { results := [.lit (.bool false)], args := [d] }
  | _ => none }
def FnPlaceTakeWrongFalsely : Prop := fnPlaceTakeRow.holds Tryz.pinned (OpenSpec.ofChange fnPlaceTakeWrong)

/-- 'laws.FnPlacePass': WHATEVER THE INPUT: true; the input reads as it did. -/
def fnPlacePassSpec : ChangeSpec := { name := "fnPlacePass", fn := fun _ => fun
  | [d] => { results := [.lit (.bool true)], args := [d] }
  | _ => none }
def fnPlacePassRow : OpenClaim := { program := "ytoihoaaiadagaaagreat", sum := "675091a6e932744269d2d0faa624d03def8609b3926b277bded48ddfd00af8e5", func := "loop.example/confluence/laws.FnPlacePass", spec := "fnPlacePass", unfollowed := true, recurses := true, apart := false }
def FnPlacePassSaid : Prop := fnPlacePassRow.holds Tryz.pinned (OpenSpec.ofChange fnPlacePassSpec)

/-- ITS FALSE NEIGHBOUR: 'it returns false'. Refute it at one input. -/
def fnPlacePassWrong : ChangeSpec := { name := "fnPlacePass", fn := fun _ => fun
  | [d] => { results := [.lit (.bool false)], args := [d] }
  | _ => none }
def FnPlacePassWrongFalsely : Prop := fnPlacePassRow.holds Tryz.pinned (OpenSpec.ofChange fnPlacePassWrong)

/-- 'laws.FnPlaceWrite': WHATEVER THE INPUT: true; the input reads as it did. -/
def fnPlaceWriteSpec : ChangeSpec := { name := "fnPlaceWrite", fn := fun _ => fun
  | [d] => { results := [.lit (.bool true)], args := [d] }
  | _ => none }
def fnPlaceWriteRow : OpenClaim := { program := "ytoihoaaiadagaaagreat", sum := "675091a6e932744269d2d0faa624d03def8609b3926b277bded48ddfd00af8e5", func := "loop.example/confluence/laws.FnPlaceWrite", spec := "fnPlaceWrite", unfollowed := true, recurses := true, apart := false }
def FnPlaceWriteSaid : Prop := fnPlaceWriteRow.holds Tryz.pinned (OpenSpec.ofChange fnPlaceWriteSpec)

/-- ITS FALSE NEIGHBOUR: 'it returns false'. Refute it at one input. -/
def fnPlaceWriteWrong : ChangeSpec := { name := "fnPlaceWrite", fn := fun _ => fun
  | [d] => { results := [.lit (.bool false)], args := [d] }
  | _ => none }
def FnPlaceWriteWrongFalsely : Prop := fnPlaceWriteRow.holds Tryz.pinned (OpenSpec.ofChange fnPlaceWriteWrong)

/-- 'laws.FnPlaceLater': WHATEVER THE INPUT: true; the input reads as it did. -/
def fnPlaceLaterSpec : ChangeSpec := { name := "fnPlaceLater", fn := fun _ => fun
  | [d] => { results := [.lit (.bool true)], args := [d] }
  | _ => none }
def fnPlaceLaterRow : OpenClaim := { program := "ytoihoaaiadagaaagreat", sum := "675091a6e932744269d2d0faa624d03def8609b3926b277bded48ddfd00af8e5", func := "loop.example/confluence/laws.FnPlaceLater", spec := "fnPlaceLater", unfollowed := true, recurses := true, apart := false }
def FnPlaceLaterSaid : Prop := fnPlaceLaterRow.holds Tryz.pinned (OpenSpec.ofChange fnPlaceLaterSpec)

/-- ITS FALSE NEIGHBOUR: 'it returns false'. Refute it at one input. -/
def fnPlaceLaterWrong : ChangeSpec := { name := "fnPlaceLater", fn := fun _ => fun
  | [d] => { results := [.lit (.bool false)], args := [d] }
  | _ => none }
def FnPlaceLaterWrongFalsely : Prop := fnPlaceLaterRow.holds Tryz.pinned (OpenSpec.ofChange fnPlaceLaterWrong)

/-- 'laws.FnPlaceFall': WHATEVER THE INPUT: true; the input reads as it did. -/
def fnPlaceFallSpec : ChangeSpec := { name := "fnPlaceFall", fn := fun _ => fun
  | [d] => { results := [.lit (.bool true)], args := [d] }
  | _ => none }
def fnPlaceFallRow : OpenClaim := { program := "ytoihoaaiadagaaagreat", sum := "675091a6e932744269d2d0faa624d03def8609b3926b277bded48ddfd00af8e5", func := "loop.example/confluence/laws.FnPlaceFall", spec := "fnPlaceFall", unfollowed := true, recurses := true, apart := false }
def FnPlaceFallSaid : Prop := fnPlaceFallRow.holds Tryz.pinned (OpenSpec.ofChange fnPlaceFallSpec)

/-- ITS FALSE NEIGHBOUR: 'it returns false'. Refute it at one input. -/
def fnPlaceFallWrong : ChangeSpec := { name := "fnPlaceFall", fn := fun _ => fun
  | [d] => { results := [.lit (.bool false)], args := [d] }
  | _ => none }
def FnPlaceFallWrongFalsely : Prop := fnPlaceFallRow.holds Tryz.pinned (OpenSpec.ofChange fnPlaceFallWrong)

/-- 'laws.FnExactWorldDo': WHATEVER THE INPUT: true; the input reads as it did. -/
def fnExactWorldDoSpec : ChangeSpec := { name := "fnExactWorldDo", fn := fun _ => fun
  | [d1, d2] => { results := [.lit (.bool true)], args := [d1, d2] }
  | _ => none }
def fnExactWorldDoRow : OpenClaim := { program := "ytoihoaaiadagaaagreat", sum := "675091a6e932744269d2d0faa624d03def8609b3926b277bded48ddfd00af8e5", func := "loop.example/confluence/laws.FnExactWorldDo", spec := "fnExactWorldDo", unfollowed := true, recurses := true, apart := false }
def FnExactWorldDoSaid : Prop := fnExactWorldDoRow.holds Tryz.pinned (OpenSpec.ofChange fnExactWorldDoSpec)

/-- ITS FALSE NEIGHBOUR: 'it returns false'. Refute it at one input. -/
def fnExactWorldDoWrong : ChangeSpec := { name := "fnExactWorldDo", fn := fun _ => fun
  | [d1, d2] => { results := [.lit (.bool false)], args := [d1, d2] }
  | _ => none }
def FnExactWorldDoWrongFalsely : Prop := fnExactWorldDoRow.holds Tryz.pinned (OpenSpec.ofChange fnExactWorldDoWrong)

/-- 'laws.FnExactWorldPlay': WHATEVER THE INPUT: true; the input reads as it did. -/
def fnExactWorldPlaySpec : ChangeSpec := { name := "fnExactWorldPlay", fn := fun _ => fun
  | [d1, d2, d3] => { results := [.lit (.bool true)], args := [d1, d2, d3] }
  | _ => none }
def fnExactWorldPlayRow : OpenClaim := { program := "ytoihoaaiadagaaagreat", sum := "675091a6e932744269d2d0faa624d03def8609b3926b277bded48ddfd00af8e5", func := "loop.example/confluence/laws.FnExactWorldPlay", spec := "fnExactWorldPlay", unfollowed := true, recurses := true, apart := false }
def FnExactWorldPlaySaid : Prop := fnExactWorldPlayRow.holds Tryz.pinned (OpenSpec.ofChange fnExactWorldPlaySpec)

/-- ITS FALSE NEIGHBOUR: 'it returns false'. Refute it at one input. -/
def fnExactWorldPlayWrong : ChangeSpec := { name := "fnExactWorldPlay", fn := fun _ => fun
  | [d1, d2, d3] => { results := [.lit (.bool false)], args := [d1, d2, d3] }
  | _ => none }
def FnExactWorldPlayWrongFalsely : Prop := fnExactWorldPlayRow.holds Tryz.pinned (OpenSpec.ofChange fnExactWorldPlayWrong)

/-- 'laws.FnWorldMono': WHATEVER THE INPUT: true; the input reads as it did. -/
def fnWorldMonoSpec : ChangeSpec := { name := "fnWorldMono", fn := fun _ => fun
  | [d1, d2] => { results := [.lit (.bool true)], args := [d1, d2] }
  | _ => none }
def fnWorldMonoRow : OpenClaim := { program := "ytoihoaaiadagaaagreat", sum := "675091a6e932744269d2d0faa624d03def8609b3926b277bded48ddfd00af8e5", func := "loop.example/confluence/laws.FnWorldMono", spec := "fnWorldMono", unfollowed := true, recurses := true, apart := false }
def FnWorldMonoSaid : Prop := fnWorldMonoRow.holds Tryz.pinned (OpenSpec.ofChange fnWorldMonoSpec)

/-- ITS FALSE NEIGHBOUR: 'it returns false'. Refute it at one input. -/
def fnWorldMonoWrong : ChangeSpec := { name := "fnWorldMono", fn := fun _ => fun
  | [d1, d2] => { results := [.lit (.bool false)], args := [d1, d2] }
  | _ => none }
def FnWorldMonoWrongFalsely : Prop := fnWorldMonoRow.holds Tryz.pinned (OpenSpec.ofChange fnWorldMonoWrong)

/-- 'laws.FnWorldLogs': WHATEVER THE INPUT: true; the input reads as it did. -/
def fnWorldLogsSpec : ChangeSpec := { name := "fnWorldLogs", fn := fun _ => fun
  | [d1, d2] => { results := [.lit (.bool true)], args := [d1, d2] }
  | _ => none }
def fnWorldLogsRow : OpenClaim := { program := "ytoihoaaiadagaaagreat", sum := "675091a6e932744269d2d0faa624d03def8609b3926b277bded48ddfd00af8e5", func := "loop.example/confluence/laws.FnWorldLogs", spec := "fnWorldLogs", unfollowed := true, recurses := true, apart := false }
def FnWorldLogsSaid : Prop := fnWorldLogsRow.holds Tryz.pinned (OpenSpec.ofChange fnWorldLogsSpec)

/-- ITS FALSE NEIGHBOUR: 'it returns false'. Refute it at one input. -/
def fnWorldLogsWrong : ChangeSpec := { name := "fnWorldLogs", fn := fun _ => fun
  | [d1, d2] => { results := [.lit (.bool false)], args := [d1, d2] }
  | _ => none }
def FnWorldLogsWrongFalsely : Prop := fnWorldLogsRow.holds Tryz.pinned (OpenSpec.ofChange fnWorldLogsWrong)

/-- 'laws.FnWorldStable': WHATEVER THE INPUT: true; the input reads as it did. -/
def fnWorldStableSpec : ChangeSpec := { name := "fnWorldStable", fn := fun _ => fun
  | [d1, d2] => { results := [.lit (.bool true)], args := [d1, d2] }
  | _ => none }
def fnWorldStableRow : OpenClaim := { program := "ytoihoaaiadagaaagreat", sum := "675091a6e932744269d2d0faa624d03def8609b3926b277bded48ddfd00af8e5", func := "loop.example/confluence/laws.FnWorldStable", spec := "fnWorldStable", unfollowed := true, recurses := true, apart := false }
def FnWorldStableSaid : Prop := fnWorldStableRow.holds Tryz.pinned (OpenSpec.ofChange fnWorldStableSpec)

/-- ITS FALSE NEIGHBOUR: 'it returns false'. Refute it at one input. -/
def fnWorldStableWrong : ChangeSpec := { name := "fnWorldStable", fn := fun _ => fun
  | [d1, d2] => { results := [.lit (.bool false)], args := [d1, d2] }
  | _ => none }
def FnWorldStableWrongFalsely : Prop := fnWorldStableRow.holds Tryz.pinned (OpenSpec.ofChange fnWorldStableWrong)

/- THE SECOND FORM. 'bulk': how many values and letters a reading holds, each counted each time it is reached (what is shared counts as often as it is met; a slice's spare places count too). A statement '..UptoSaid' is the law's where the arguments, and the package variables that the reading takes, are together of bulk at most 1048576: NARROWER than '..Said'. Prove '..Said' where nothing that the law and all that it calls make is longer than what came in: it says more and counts as full. Else prove '..UptoSaid'. A law counts once. -/
mutual
def uptoBulk {H : Type} : DataW H → Nat
  | .lit (.string bytes) => bytes.length + 1
  | .lit _ => 1
  | .nil => 1
  | .ptr d => uptoBulk d + 1
  | .slice elems spare => uptoBulkAll elems + uptoBulkAll spare + 1
  | .agg parts => uptoBulkAll parts + 1
  | .iface _ d => uptoBulk d + 1
  | .map entries => uptoBulkEntries entries + 1
  | .held _ => 1
def uptoBulkAll {H : Type} : List (DataW H) → Nat
  | [] => 0
  | d :: r => uptoBulk d + uptoBulkAll r
def uptoBulkEntries {H : Type} : List (Lit × DataW H) → Nat
  | [] => 0
  | x :: r => uptoBulkEntry x + uptoBulkEntries r
def uptoBulkEntry {H : Type} : Lit × DataW H → Nat
  | (.string bytes, d) => bytes.length + uptoBulk d + 1
  | (_, d) => uptoBulk d + 1
 end
def uptoSmall : (H : Type) → List (DataW H) → Bool := fun _ ds => decide (uptoBulkAll ds ≤ 1048576)
def OpenSpec.upto (s : _root_.Go.ChangeSpec) : _root_.Go.OpenSpec := { _root_.Go.OpenSpec.ofChange s with cond := some uptoSmall }

/-- 'laws.FnChainShows', WHERE WHAT IT READS IS OF BULK AT MOST 1048576: true; the input reads as it did. -/
def fnChainShowsUptoRow : OpenClaim := { program := "ytoihoaaiadagaaagreat", sum := "675091a6e932744269d2d0faa624d03def8609b3926b277bded48ddfd00af8e5", func := "loop.example/confluence/laws.FnChainShows", spec := "fnChainShows", unfollowed := true, recurses := true, apart := false, narrowed := true }
def FnChainShowsUptoSaid : Prop := fnChainShowsUptoRow.holds Tryz.pinned (OpenSpec.upto fnChainShowsSpec)

/-- 'laws.FnPlaceHear', WHERE WHAT IT READS IS OF BULK AT MOST 1048576: true; the input reads as it did. -/
def fnPlaceHearUptoRow : OpenClaim := { program := "ytoihoaaiadagaaagreat", sum := "675091a6e932744269d2d0faa624d03def8609b3926b277bded48ddfd00af8e5", func := "loop.example/confluence/laws.FnPlaceHear", spec := "fnPlaceHear", unfollowed := true, recurses := true, apart := false, narrowed := true }
def FnPlaceHearUptoSaid : Prop := fnPlaceHearUptoRow.holds Tryz.pinned (OpenSpec.upto fnPlaceHearSpec)

/-- 'laws.FnPlaceTake', WHERE WHAT IT READS IS OF BULK AT MOST 1048576: true; the input reads as it did. -/
def fnPlaceTakeUptoRow : OpenClaim := { program := "ytoihoaaiadagaaagreat", sum := "675091a6e932744269d2d0faa624d03def8609b3926b277bded48ddfd00af8e5", func := "loop.example/confluence/laws.FnPlaceTake", spec := "fnPlaceTake", unfollowed := true, recurses := true, apart := false, narrowed := true }
def FnPlaceTakeUptoSaid : Prop := fnPlaceTakeUptoRow.holds Tryz.pinned (OpenSpec.upto fnPlaceTakeSpec)

/-- 'laws.FnPlacePass', WHERE WHAT IT READS IS OF BULK AT MOST 1048576: true; the input reads as it did. -/
def fnPlacePassUptoRow : OpenClaim := { program := "ytoihoaaiadagaaagreat", sum := "675091a6e932744269d2d0faa624d03def8609b3926b277bded48ddfd00af8e5", func := "loop.example/confluence/laws.FnPlacePass", spec := "fnPlacePass", unfollowed := true, recurses := true, apart := false, narrowed := true }
def FnPlacePassUptoSaid : Prop := fnPlacePassUptoRow.holds Tryz.pinned (OpenSpec.upto fnPlacePassSpec)

/-- 'laws.FnPlaceWrite', WHERE WHAT IT READS IS OF BULK AT MOST 1048576: true; the input reads as it did. -/
def fnPlaceWriteUptoRow : OpenClaim := { program := "ytoihoaaiadagaaagreat", sum := "675091a6e932744269d2d0faa624d03def8609b3926b277bded48ddfd00af8e5", func := "loop.example/confluence/laws.FnPlaceWrite", spec := "fnPlaceWrite", unfollowed := true, recurses := true, apart := false, narrowed := true }
def FnPlaceWriteUptoSaid : Prop := fnPlaceWriteUptoRow.holds Tryz.pinned (OpenSpec.upto fnPlaceWriteSpec)

/-- 'laws.FnPlaceLater', WHERE WHAT IT READS IS OF BULK AT MOST 1048576: true; the input reads as it did. -/
def fnPlaceLaterUptoRow : OpenClaim := { program := "ytoihoaaiadagaaagreat", sum := "675091a6e932744269d2d0faa624d03def8609b3926b277bded48ddfd00af8e5", func := "loop.example/confluence/laws.FnPlaceLater", spec := "fnPlaceLater", unfollowed := true, recurses := true, apart := false, narrowed := true }
def FnPlaceLaterUptoSaid : Prop := fnPlaceLaterUptoRow.holds Tryz.pinned (OpenSpec.upto fnPlaceLaterSpec)

/-- 'laws.FnPlaceFall', WHERE WHAT IT READS IS OF BULK AT MOST 1048576: true; the input reads as it did. -/
def fnPlaceFallUptoRow : OpenClaim := { program := "ytoihoaaiadagaaagreat", sum := "675091a6e932744269d2d0faa624d03def8609b3926b277bded48ddfd00af8e5", func := "loop.example/confluence/laws.FnPlaceFall", spec := "fnPlaceFall", unfollowed := true, recurses := true, apart := false, narrowed := true }
def FnPlaceFallUptoSaid : Prop := fnPlaceFallUptoRow.holds Tryz.pinned (OpenSpec.upto fnPlaceFallSpec)

/-- 'laws.FnExactWorldDo', WHERE WHAT IT READS IS OF BULK AT MOST 1048576: true; the input reads as it did. -/
def fnExactWorldDoUptoRow : OpenClaim := { program := "ytoihoaaiadagaaagreat", sum := "675091a6e932744269d2d0faa624d03def8609b3926b277bded48ddfd00af8e5", func := "loop.example/confluence/laws.FnExactWorldDo", spec := "fnExactWorldDo", unfollowed := true, recurses := true, apart := false, narrowed := true }
def FnExactWorldDoUptoSaid : Prop := fnExactWorldDoUptoRow.holds Tryz.pinned (OpenSpec.upto fnExactWorldDoSpec)

/-- 'laws.FnExactWorldPlay', WHERE WHAT IT READS IS OF BULK AT MOST 1048576: true; the input reads as it did. -/
def fnExactWorldPlayUptoRow : OpenClaim := { program := "ytoihoaaiadagaaagreat", sum := "675091a6e932744269d2d0faa624d03def8609b3926b277bded48ddfd00af8e5", func := "loop.example/confluence/laws.FnExactWorldPlay", spec := "fnExactWorldPlay", unfollowed := true, recurses := true, apart := false, narrowed := true }
def FnExactWorldPlayUptoSaid : Prop := fnExactWorldPlayUptoRow.holds Tryz.pinned (OpenSpec.upto fnExactWorldPlaySpec)

/-- 'laws.FnWorldMono', WHERE WHAT IT READS IS OF BULK AT MOST 1048576: true; the input reads as it did. -/
def fnWorldMonoUptoRow : OpenClaim := { program := "ytoihoaaiadagaaagreat", sum := "675091a6e932744269d2d0faa624d03def8609b3926b277bded48ddfd00af8e5", func := "loop.example/confluence/laws.FnWorldMono", spec := "fnWorldMono", unfollowed := true, recurses := true, apart := false, narrowed := true }
def FnWorldMonoUptoSaid : Prop := fnWorldMonoUptoRow.holds Tryz.pinned (OpenSpec.upto fnWorldMonoSpec)

/-- 'laws.FnWorldLogs', WHERE WHAT IT READS IS OF BULK AT MOST 1048576: true; the input reads as it did. -/
def fnWorldLogsUptoRow : OpenClaim := { program := "ytoihoaaiadagaaagreat", sum := "675091a6e932744269d2d0faa624d03def8609b3926b277bded48ddfd00af8e5", func := "loop.example/confluence/laws.FnWorldLogs", spec := "fnWorldLogs", unfollowed := true, recurses := true, apart := false, narrowed := true }
def FnWorldLogsUptoSaid : Prop := fnWorldLogsUptoRow.holds Tryz.pinned (OpenSpec.upto fnWorldLogsSpec)

/-- 'laws.FnWorldStable', WHERE WHAT IT READS IS OF BULK AT MOST 1048576: true; the input reads as it did. -/
def fnWorldStableUptoRow : OpenClaim := { program := "ytoihoaaiadagaaagreat", sum := "675091a6e932744269d2d0faa624d03def8609b3926b277bded48ddfd00af8e5", func := "loop.example/confluence/laws.FnWorldStable", spec := "fnWorldStable", unfollowed := true, recurses := true, apart := false, narrowed := true }
def FnWorldStableUptoSaid : Prop := fnWorldStableUptoRow.holds Tryz.pinned (OpenSpec.upto fnWorldStableSpec)

end Rows
end Go.Proofs.YtoihoaaiadagaaaGreat
