/-
  No cell of these rows narrows 'for every input' (looked for: loops, veiled, ifaces, maps, wideKeys, modest, calm, conditions, laid).
  DERIVED. THE GIVEN ROWS OF THIS SEAT. 6 by the template 'for every input the law returns true; each argument reads behind the call as it read before'; 0 by the template 'total and deterministic' (their statements: YtmgopagfoemomaaGreatTotals.lean).
  GIVEN WITH THE SEED: the statements are not yours to turn. If you find one false, say at which input.
  Laid BY PROGRAM, IN A SANDBOX (cutbox-rows.mjs): the forced cells as the released guide's own fill.sh prints them over the translation 2c9cfc9d995ad42b… (all of the seat's roots in one cut). By AI agents, Wed Nov 11 2026. No macro, syntax, notation, axiom, sorry.
-/
import Derived.Test.YtmgopagfoemomaaGreatChecked
import GoSem.Claim
import GoSem.ClaimJoined
import GoSem.ClaimMapViews
import Derived.JoinedTies
import Derived.KernelRfl
namespace Go.Proofs.YtmgopagfoemomaaGreat
/- THE CELL 'sum', in the pinned program and in every row, IS THE sha256 OF THE DUMP (.gsa) THAT YtmgopagfoemomaaGreatProg.lean LOADS. Nothing in Lean hashes anything: it is a label: what it is worth is what the hold of that sum in a sandbox is worth. -/
noncomputable def Tryz.pinned : Pinned := { name := "ytmgopagfoemomaagreat", sum := "2c9cfc9d995ad42bde3c91931352066331b0d228cb9fbe9cd51726266d0fd464", checked := Tryz.checked }
namespace Rows
def none {H : Type} : Left H := { results := [], args := [] }

/-- 'laws.FnPlaceWrite': WHATEVER THE INPUT: true; the input reads as it did. -/
def fnPlaceWriteSpec : ChangeSpec := { name := "fnPlaceWrite", fn := fun _ => fun
  | [d] => { results := [.lit (.bool true)], args := [d] }
  | _ => none }
def fnPlaceWriteRow : OpenClaim := { program := "ytmgopagfoemomaagreat", sum := "2c9cfc9d995ad42bde3c91931352066331b0d228cb9fbe9cd51726266d0fd464", func := "loop.example/confluence/laws.FnPlaceWrite", spec := "fnPlaceWrite", unfollowed := true, recurses := true, apart := false }
def FnPlaceWriteSaid : Prop := fnPlaceWriteRow.holds Tryz.pinned (OpenSpec.ofChange fnPlaceWriteSpec)

/-- ITS FALSE NEIGHBOUR: 'it returns false'. Refute it at one input. -/
def fnPlaceWriteWrong : ChangeSpec := { name := "fnPlaceWrite", fn := fun _ => fun
  | [d] => { results := [.lit (.bool false)], args := [d] }
  | _ => none }
def FnPlaceWriteWrongFalsely : Prop := fnPlaceWriteRow.holds Tryz.pinned (OpenSpec.ofChange fnPlaceWriteWrong)

/-- 'laws.FnWorldMono': WHATEVER THE INPUT: true; the input reads as it did. -/
def fnWorldMonoSpec : ChangeSpec := { name := "fnWorldMono", fn := fun _ => fun
  | [d1, d2] => { results := [.lit (.bool true)], args := [d1, d2] }
  | _ => none }
def fnWorldMonoRow : OpenClaim := { program := "ytmgopagfoemomaagreat", sum := "2c9cfc9d995ad42bde3c91931352066331b0d228cb9fbe9cd51726266d0fd464", func := "loop.example/confluence/laws.FnWorldMono", spec := "fnWorldMono", unfollowed := true, recurses := true, apart := false }
def FnWorldMonoSaid : Prop := fnWorldMonoRow.holds Tryz.pinned (OpenSpec.ofChange fnWorldMonoSpec)

/-- ITS FALSE NEIGHBOUR: 'it returns false'. Refute it at one input. -/
def fnWorldMonoWrong : ChangeSpec := { name := "fnWorldMono", fn := fun _ => fun
  | [d1, d2] => { results := [.lit (.bool false)], args := [d1, d2] }
  | _ => none }
def FnWorldMonoWrongFalsely : Prop := fnWorldMonoRow.holds Tryz.pinned (OpenSpec.ofChange fnWorldMonoWrong)

/-- 'laws.FnWorldCauses': WHATEVER THE INPUT: true; the input reads as it did. -/
def fnWorldCausesSpec : ChangeSpec := { name := "fnWorldCauses", fn := fun _ => fun
  | [d] => { results := [.lit (.bool true)], args := [d] }
  | _ => none }
def fnWorldCausesRow : OpenClaim := { program := "ytmgopagfoemomaagreat", sum := "2c9cfc9d995ad42bde3c91931352066331b0d228cb9fbe9cd51726266d0fd464", func := "loop.example/confluence/laws.FnWorldCauses", spec := "fnWorldCauses", unfollowed := true, recurses := true, apart := false }
def FnWorldCausesSaid : Prop := fnWorldCausesRow.holds Tryz.pinned (OpenSpec.ofChange fnWorldCausesSpec)

/-- ITS FALSE NEIGHBOUR: 'it returns false'. Refute it at one input. -/
def fnWorldCausesWrong : ChangeSpec := { name := "fnWorldCauses", fn := fun _ => fun
  | [d] => { results := [.lit (.bool false)], args := [d] }
  | _ => none }
def FnWorldCausesWrongFalsely : Prop := fnWorldCausesRow.holds Tryz.pinned (OpenSpec.ofChange fnWorldCausesWrong)

/-- 'laws.FnWorldFold': WHATEVER THE INPUT: true; the input reads as it did. -/
def fnWorldFoldSpec : ChangeSpec := { name := "fnWorldFold", fn := fun _ => fun
  | [d] => { results := [.lit (.bool true)], args := [d] }
  | _ => none }
def fnWorldFoldRow : OpenClaim := { program := "ytmgopagfoemomaagreat", sum := "2c9cfc9d995ad42bde3c91931352066331b0d228cb9fbe9cd51726266d0fd464", func := "loop.example/confluence/laws.FnWorldFold", spec := "fnWorldFold", unfollowed := true, recurses := true, apart := false }
def FnWorldFoldSaid : Prop := fnWorldFoldRow.holds Tryz.pinned (OpenSpec.ofChange fnWorldFoldSpec)

/-- ITS FALSE NEIGHBOUR: 'it returns false'. Refute it at one input. -/
def fnWorldFoldWrong : ChangeSpec := { name := "fnWorldFold", fn := fun _ => fun
  | [d] => { results := [.lit (.bool false)], args := [d] }
  | _ => none }
def FnWorldFoldWrongFalsely : Prop := fnWorldFoldRow.holds Tryz.pinned (OpenSpec.ofChange fnWorldFoldWrong)

/-- 'laws.FnExactWorldPlay': WHATEVER THE INPUT: true; the input reads as it did. -/
def fnExactWorldPlaySpec : ChangeSpec := { name := "fnExactWorldPlay", fn := fun _ => fun
  | [d1, d2, d3] => { results := [.lit (.bool true)], args := [d1, d2, d3] }
  | _ => none }
def fnExactWorldPlayRow : OpenClaim := { program := "ytmgopagfoemomaagreat", sum := "2c9cfc9d995ad42bde3c91931352066331b0d228cb9fbe9cd51726266d0fd464", func := "loop.example/confluence/laws.FnExactWorldPlay", spec := "fnExactWorldPlay", unfollowed := true, recurses := true, apart := false }
def FnExactWorldPlaySaid : Prop := fnExactWorldPlayRow.holds Tryz.pinned (OpenSpec.ofChange fnExactWorldPlaySpec)

/-- ITS FALSE NEIGHBOUR: 'it returns false'. Refute it at one input. -/
def fnExactWorldPlayWrong : ChangeSpec := { name := "fnExactWorldPlay", fn := fun _ => fun
  | [d1, d2, d3] => { results := [.lit (.bool false)], args := [d1, d2, d3] }
  | _ => none }
def FnExactWorldPlayWrongFalsely : Prop := fnExactWorldPlayRow.holds Tryz.pinned (OpenSpec.ofChange fnExactWorldPlayWrong)

/-- 'laws.FnExactWorldDo': WHATEVER THE INPUT: true; the input reads as it did. -/
def fnExactWorldDoSpec : ChangeSpec := { name := "fnExactWorldDo", fn := fun _ => fun
  | [d1, d2] => { results := [.lit (.bool true)], args := [d1, d2] }
  | _ => none }
def fnExactWorldDoRow : OpenClaim := { program := "ytmgopagfoemomaagreat", sum := "2c9cfc9d995ad42bde3c91931352066331b0d228cb9fbe9cd51726266d0fd464", func := "loop.example/confluence/laws.FnExactWorldDo", spec := "fnExactWorldDo", unfollowed := true, recurses := true, apart := false }
def FnExactWorldDoSaid : Prop := fnExactWorldDoRow.holds Tryz.pinned (OpenSpec.ofChange fnExactWorldDoSpec)

/-- ITS FALSE NEIGHBOUR: 'it returns false'. Refute it at one input. -/
def fnExactWorldDoWrong : ChangeSpec := { name := "fnExactWorldDo", fn := fun _ => fun
  | [d1, d2] => { results := [.lit (.bool false)], args := [d1, d2] }
  | _ => none }
def FnExactWorldDoWrongFalsely : Prop := fnExactWorldDoRow.holds Tryz.pinned (OpenSpec.ofChange fnExactWorldDoWrong)

/- THE SECOND FORM. 'bulk': how many values and letters a reading holds, each counted each time it is reached (what is shared counts as often as it is met; a slice's spare places count too). A statement '..UptoSaid' is the law's where the arguments, and the package variables that the reading takes, are together of bulk at most 1048576: NARROWER than '..Said'. Prove '..Said' where nothing that the law and all that it calls make is longer than what came in: it says more and counts as full. Else prove '..UptoSaid'. A law counts once. -/
mutual
def uptoBulk {H : Type} : DataW H → Nat
  | .lit (.string bytes) => bytes.length + 1
  | .lit _ => 1
  | .nil => 1
  | .ptr d => uptoBulk d + 1
  | .slice elems spare => uptoBulkAll elems + uptoBulkAll spare + 1
  | .agg parts => uptoBulkAll parts + 1
  | .iface _ d => uptoBulk d + 1
  | .map entries => uptoBulkEntries entries + 1
  | .held _ => 1
def uptoBulkAll {H : Type} : List (DataW H) → Nat
  | [] => 0
  | d :: r => uptoBulk d + uptoBulkAll r
def uptoBulkEntries {H : Type} : List (Lit × DataW H) → Nat
  | [] => 0
  | x :: r => uptoBulkEntry x + uptoBulkEntries r
def uptoBulkEntry {H : Type} : Lit × DataW H → Nat
  | (.string bytes, d) => bytes.length + uptoBulk d + 1
  | (_, d) => uptoBulk d + 1
 end
def uptoSmall : (H : Type) → List (DataW H) → Bool := fun _ ds => decide (uptoBulkAll ds ≤ 1048576)
def OpenSpec.upto (s : _root_.Go.ChangeSpec) : _root_.Go.OpenSpec := { _root_.Go.OpenSpec.ofChange s with cond := some uptoSmall }

/-- 'laws.FnPlaceWrite', WHERE WHAT IT READS IS OF BULK AT MOST 1048576: true; the input reads as it did. -/
def fnPlaceWriteUptoRow : OpenClaim := { program := "ytmgopagfoemomaagreat", sum := "2c9cfc9d995ad42bde3c91931352066331b0d228cb9fbe9cd51726266d0fd464", func := "loop.example/confluence/laws.FnPlaceWrite", spec := "fnPlaceWrite", unfollowed := true, recurses := true, apart := false, narrowed := true }
def FnPlaceWriteUptoSaid : Prop := fnPlaceWriteUptoRow.holds Tryz.pinned (OpenSpec.upto fnPlaceWriteSpec)

/-- 'laws.FnWorldMono', WHERE WHAT IT READS IS OF BULK AT MOST 1048576: true; the input reads as it did. -/
def fnWorldMonoUptoRow : OpenClaim := { program := "ytmgopagfoemomaagreat", sum := "2c9cfc9d995ad42bde3c91931352066331b0d228cb9fbe9cd51726266d0fd464", func := "loop.example/confluence/laws.FnWorldMono", spec := "fnWorldMono", unfollowed := true, recurses := true, apart := false, narrowed := true }
def FnWorldMonoUptoSaid : Prop := fnWorldMonoUptoRow.holds Tryz.pinned (OpenSpec.upto fnWorldMonoSpec)

/-- 'laws.FnWorldCauses', WHERE WHAT IT READS IS OF BULK AT MOST 1048576: true; the input reads as it did. -/
def fnWorldCausesUptoRow : OpenClaim := { program := "ytmgopagfoemomaagreat", sum := "2c9cfc9d995ad42bde3c91931352066331b0d228cb9fbe9cd51726266d0fd464", func := "loop.example/confluence/laws.FnWorldCauses", spec := "fnWorldCauses", unfollowed := true, recurses := true, apart := false, narrowed := true }
def FnWorldCausesUptoSaid : Prop := fnWorldCausesUptoRow.holds Tryz.pinned (OpenSpec.upto fnWorldCausesSpec)

/-- 'laws.FnWorldFold', WHERE WHAT IT READS IS OF BULK AT MOST 1048576: true; the input reads as it did. -/
def fnWorldFoldUptoRow : OpenClaim := { program := "ytmgopagfoemomaagreat", sum := "2c9cfc9d995ad42bde3c91931352066331b0d228cb9fbe9cd51726266d0fd464", func := "loop.example/confluence/laws.FnWorldFold", spec := "fnWorldFold", unfollowed := true, recurses := true, apart := false, narrowed := true }
def FnWorldFoldUptoSaid : Prop := fnWorldFoldUptoRow.holds Tryz.pinned (OpenSpec.upto fnWorldFoldSpec)

/-- 'laws.FnExactWorldPlay', WHERE WHAT IT READS IS OF BULK AT MOST 1048576: true; the input reads as it did. -/
def fnExactWorldPlayUptoRow : OpenClaim := { program := "ytmgopagfoemomaagreat", sum := "2c9cfc9d995ad42bde3c91931352066331b0d228cb9fbe9cd51726266d0fd464", func := "loop.example/confluence/laws.FnExactWorldPlay", spec := "fnExactWorldPlay", unfollowed := true, recurses := true, apart := false, narrowed := true }
def FnExactWorldPlayUptoSaid : Prop := fnExactWorldPlayUptoRow.holds Tryz.pinned (OpenSpec.upto fnExactWorldPlaySpec)

/-- 'laws.FnExactWorldDo', WHERE WHAT IT READS IS OF BULK AT MOST 1048576: true; the input reads as it did. -/
def fnExactWorldDoUptoRow : OpenClaim := { program := "ytmgopagfoemomaagreat", sum := "2c9cfc9d995ad42bde3c91931352066331b0d228cb9fbe9cd51726266d0fd464", func := "loop.example/confluence/laws.FnExactWorldDo", spec := "fnExactWorldDo", unfollowed := true, recurses := true, apart := false, narrowed := true }
def FnExactWorldDoUptoSaid : Prop := fnExactWorldDoUptoRow.holds Tryz.pinned (OpenSpec.upto fnExactWorldDoSpec)

end Rows
end Go.Proofs.YtmgopagfoemomaaGreat
