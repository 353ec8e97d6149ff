/-
  No cell of these rows narrows 'for every input' (looked for: loops, veiled, ifaces, maps, wideKeys, modest, calm, conditions, laid).
  DERIVED. THE GIVEN ROWS OF THIS SEAT. 12 by the template 'for every input the law returns true; each argument reads behind the call as it read before'; 0 by the template 'total and deterministic' (their statements: YtfhnofppfacemaaGreatTotals.lean).
  GIVEN WITH THE SEED: the statements are not yours to turn. If you find one false, say at which input.
  Laid BY PROGRAM, IN A SANDBOX (cutbox-rows.mjs): the forced cells as the released guide's own fill.sh prints them over the translation 58e1adfbe53588a9… (all of the seat's roots in one cut). By AI agents, Wed Nov 11 2026. No macro, syntax, notation, axiom, sorry.
-/
import Derived.Test.YtfhnofppfacemaaGreatChecked
import GoSem.Claim
import GoSem.ClaimJoined
import GoSem.ClaimMapViews
import Derived.JoinedTies
import Derived.KernelRfl
namespace Go.Proofs.YtfhnofppfacemaaGreat
/- THE CELL 'sum', in the pinned program and in every row, IS THE sha256 OF THE DUMP (.gsa) THAT YtfhnofppfacemaaGreatProg.lean LOADS. Nothing in Lean hashes anything: it is a label: what it is worth is what the hold of that sum in a sandbox is worth. -/
noncomputable def Tryz.pinned : Pinned := { name := "ytfhnofppfacemaagreat", sum := "58e1adfbe53588a970bb0630435e2a9124a57f4466a1bc1d7b6f43aad147784f", checked := Tryz.checked }
namespace Rows
def none {H : Type} : Left H := { results := [], args := [] }

/-- 'laws.FnExactPlaceTold': WHATEVER THE INPUT: true; the input reads as it did. -/
def fnExactPlaceToldSpec : ChangeSpec := { name := "fnExactPlaceTold", fn := fun _ => fun
  | [d1, d2, d3] => { results := [.lit (.bool true)], args := [d1, d2, d3] }
  | _ => none }
def fnExactPlaceToldRow : OpenClaim := { program := "ytfhnofppfacemaagreat", sum := "58e1adfbe53588a970bb0630435e2a9124a57f4466a1bc1d7b6f43aad147784f", func := "loop.example/confluence/laws.FnExactPlaceTold", spec := "fnExactPlaceTold", unfollowed := true, recurses := true, apart := false }
def FnExactPlaceToldSaid : Prop := fnExactPlaceToldRow.holds Tryz.pinned (OpenSpec.ofChange fnExactPlaceToldSpec)

/-- ITS FALSE NEIGHBOUR: 'it returns false'. Refute it at one input. -/
def fnExactPlaceToldWrong : ChangeSpec := { name := "fnExactPlaceTold", fn := fun _ => fun
  | [d1, d2, d3] => { results := [.lit (.bool false)], args := [d1, d2, d3] }
  | _ => none }
def FnExactPlaceToldWrongFalsely : Prop := fnExactPlaceToldRow.holds Tryz.pinned (OpenSpec.ofChange fnExactPlaceToldWrong)

/-- 'laws.FnExactPlaceJoin': WHATEVER THE INPUT: true; the input reads as it did. -/
def fnExactPlaceJoinSpec : ChangeSpec := { name := "fnExactPlaceJoin", fn := fun _ => fun
  | [d] => { results := [.lit (.bool true)], args := [d] }
  | _ => none }
def fnExactPlaceJoinRow : OpenClaim := { program := "ytfhnofppfacemaagreat", sum := "58e1adfbe53588a970bb0630435e2a9124a57f4466a1bc1d7b6f43aad147784f", func := "loop.example/confluence/laws.FnExactPlaceJoin", spec := "fnExactPlaceJoin", unfollowed := true, recurses := true, apart := false }
def FnExactPlaceJoinSaid : Prop := fnExactPlaceJoinRow.holds Tryz.pinned (OpenSpec.ofChange fnExactPlaceJoinSpec)

/-- ITS FALSE NEIGHBOUR: 'it returns false'. Refute it at one input. -/
def fnExactPlaceJoinWrong : ChangeSpec := { name := "fnExactPlaceJoin", fn := fun _ => fun
  | [d] => { results := [.lit (.bool false)], args := [d] }
  | _ => none }
def FnExactPlaceJoinWrongFalsely : Prop := fnExactPlaceJoinRow.holds Tryz.pinned (OpenSpec.ofChange fnExactPlaceJoinWrong)

/-- 'laws.FnExactPlaceHear': WHATEVER THE INPUT: true; the input reads as it did. -/
def fnExactPlaceHearSpec : ChangeSpec := { name := "fnExactPlaceHear", fn := fun _ => fun
  | [d1, d2, d3, d4] => { results := [.lit (.bool true)], args := [d1, d2, d3, d4] }
  | _ => none }
def fnExactPlaceHearRow : OpenClaim := { program := "ytfhnofppfacemaagreat", sum := "58e1adfbe53588a970bb0630435e2a9124a57f4466a1bc1d7b6f43aad147784f", func := "loop.example/confluence/laws.FnExactPlaceHear", spec := "fnExactPlaceHear", unfollowed := true, recurses := true, apart := false }
def FnExactPlaceHearSaid : Prop := fnExactPlaceHearRow.holds Tryz.pinned (OpenSpec.ofChange fnExactPlaceHearSpec)

/-- ITS FALSE NEIGHBOUR: 'it returns false'. Refute it at one input. -/
def fnExactPlaceHearWrong : ChangeSpec := { name := "fnExactPlaceHear", fn := fun _ => fun
  | [d1, d2, d3, d4] => { results := [.lit (.bool false)], args := [d1, d2, d3, d4] }
  | _ => none }
def FnExactPlaceHearWrongFalsely : Prop := fnExactPlaceHearRow.holds Tryz.pinned (OpenSpec.ofChange fnExactPlaceHearWrong)

/-- 'laws.FnExactPlacePass': WHATEVER THE INPUT: true; the input reads as it did. -/
def fnExactPlacePassSpec : ChangeSpec := { name := "fnExactPlacePass", fn := fun _ => fun
  | [d1, d2] => { results := [.lit (.bool true)], args := [d1, d2] }
  | _ => none }
def fnExactPlacePassRow : OpenClaim := { program := "ytfhnofppfacemaagreat", sum := "58e1adfbe53588a970bb0630435e2a9124a57f4466a1bc1d7b6f43aad147784f", func := "loop.example/confluence/laws.FnExactPlacePass", spec := "fnExactPlacePass", unfollowed := true, recurses := true, apart := false }
def FnExactPlacePassSaid : Prop := fnExactPlacePassRow.holds Tryz.pinned (OpenSpec.ofChange fnExactPlacePassSpec)

/-- ITS FALSE NEIGHBOUR: 'it returns false'. Refute it at one input. -/
def fnExactPlacePassWrong : ChangeSpec := { name := "fnExactPlacePass", fn := fun _ => fun
  | [d1, d2] => { results := [.lit (.bool false)], args := [d1, d2] }
  | _ => none }
def FnExactPlacePassWrongFalsely : Prop := fnExactPlacePassRow.holds Tryz.pinned (OpenSpec.ofChange fnExactPlacePassWrong)

/-- 'laws.FnExactPlaceTake': WHATEVER THE INPUT: true; the input reads as it did. -/
def fnExactPlaceTakeSpec : ChangeSpec := { name := "fnExactPlaceTake", fn := fun _ => fun
  | [d1, d2] => { results := [.lit (.bool true)], args := [d1, d2] }
  | _ => none }
def fnExactPlaceTakeRow : OpenClaim := { program := "ytfhnofppfacemaagreat", sum := "58e1adfbe53588a970bb0630435e2a9124a57f4466a1bc1d7b6f43aad147784f", func := "loop.example/confluence/laws.FnExactPlaceTake", spec := "fnExactPlaceTake", unfollowed := true, recurses := true, apart := false }
def FnExactPlaceTakeSaid : Prop := fnExactPlaceTakeRow.holds Tryz.pinned (OpenSpec.ofChange fnExactPlaceTakeSpec)

/-- ITS FALSE NEIGHBOUR: 'it returns false'. Refute it at one input. -/
def fnExactPlaceTakeWrong : ChangeSpec := { name := "fnExactPlaceTake", fn := fun _ => fun
  | [d1, d2] => { results := [.lit (.bool false)], args := [d1, d2] }
  | _ => none }
def FnExactPlaceTakeWrongFalsely : Prop := fnExactPlaceTakeRow.holds Tryz.pinned (OpenSpec.ofChange fnExactPlaceTakeWrong)

/-- 'laws.FnExactPlaceWrite': WHATEVER THE INPUT: true; the input reads as it did. -/
def fnExactPlaceWriteSpec : ChangeSpec := { name := "fnExactPlaceWrite", fn := fun _ => fun
  | [d1, d2, d3, d4, d5] => { results := [.lit (.bool true)], args := [d1, d2, d3, d4, d5] }
  | _ => none }
def fnExactPlaceWriteRow : OpenClaim := { program := "ytfhnofppfacemaagreat", sum := "58e1adfbe53588a970bb0630435e2a9124a57f4466a1bc1d7b6f43aad147784f", func := "loop.example/confluence/laws.FnExactPlaceWrite", spec := "fnExactPlaceWrite", unfollowed := true, recurses := true, apart := false }
def FnExactPlaceWriteSaid : Prop := fnExactPlaceWriteRow.holds Tryz.pinned (OpenSpec.ofChange fnExactPlaceWriteSpec)

/-- ITS FALSE NEIGHBOUR: 'it returns false'. Refute it at one input. -/
def fnExactPlaceWriteWrong : ChangeSpec := { name := "fnExactPlaceWrite", fn := fun _ => fun
  | [d1, d2, d3, d4, d5] => { results := [.lit (.bool false)], args := [d1, d2, d3, d4, d5] }
  | _ => none }
def FnExactPlaceWriteWrongFalsely : Prop := fnExactPlaceWriteRow.holds Tryz.pinned (OpenSpec.ofChange fnExactPlaceWriteWrong)

/-- 'laws.FnExactChainFall': WHATEVER THE INPUT: true; the input reads as it did. -/
def fnExactChainFallSpec : ChangeSpec := { name := "fnExactChainFall", fn := fun _ => fun
  | [d1, d2] => { results := [.lit (.bool true)], args := [d1, d2] }
  | _ => none }
def fnExactChainFallRow : OpenClaim := { program := "ytfhnofppfacemaagreat", sum := "58e1adfbe53588a970bb0630435e2a9124a57f4466a1bc1d7b6f43aad147784f", func := "loop.example/confluence/laws.FnExactChainFall", spec := "fnExactChainFall", unfollowed := true, recurses := true, apart := false }
def FnExactChainFallSaid : Prop := fnExactChainFallRow.holds Tryz.pinned (OpenSpec.ofChange fnExactChainFallSpec)

/-- ITS FALSE NEIGHBOUR: 'it returns false'. Refute it at one input. -/
def fnExactChainFallWrong : ChangeSpec := { name := "fnExactChainFall", fn := fun _ => fun
  | [d1, d2] => { results := [.lit (.bool false)], args := [d1, d2] }
  | _ => none }
def FnExactChainFallWrongFalsely : Prop := fnExactChainFallRow.holds Tryz.pinned (OpenSpec.ofChange fnExactChainFallWrong)

/-- 'laws.FnExactWorldOk': WHATEVER THE INPUT: true; the input reads as it did. -/
def fnExactWorldOkSpec : ChangeSpec := { name := "fnExactWorldOk", fn := fun _ => fun
  | [d] => { results := [.lit (.bool true)], args := [d] }
  | _ => none }
def fnExactWorldOkRow : OpenClaim := { program := "ytfhnofppfacemaagreat", sum := "58e1adfbe53588a970bb0630435e2a9124a57f4466a1bc1d7b6f43aad147784f", func := "loop.example/confluence/laws.FnExactWorldOk", spec := "fnExactWorldOk", unfollowed := true, recurses := true, apart := false }
def FnExactWorldOkSaid : Prop := fnExactWorldOkRow.holds Tryz.pinned (OpenSpec.ofChange fnExactWorldOkSpec)

/-- ITS FALSE NEIGHBOUR: 'it returns false'. Refute it at one input. -/
def fnExactWorldOkWrong : ChangeSpec := { name := "fnExactWorldOk", fn := fun _ => fun
  | [d] => { results := [.lit (.bool false)], args := [d] }
  | _ => none }
def FnExactWorldOkWrongFalsely : Prop := fnExactWorldOkRow.holds Tryz.pinned (OpenSpec.ofChange fnExactWorldOkWrong)

/-- 'laws.FnExactWorldSame': WHATEVER THE INPUT: true; the input reads as it did. -/
def fnExactWorldSameSpec : ChangeSpec := { name := "fnExactWorldSame", fn := fun _ => fun
  | [d] => { results := [.lit (.bool true)], args := [d] }
  | _ => none }
def fnExactWorldSameRow : OpenClaim := { program := "ytfhnofppfacemaagreat", sum := "58e1adfbe53588a970bb0630435e2a9124a57f4466a1bc1d7b6f43aad147784f", func := "loop.example/confluence/laws.FnExactWorldSame", spec := "fnExactWorldSame", unfollowed := true, recurses := true, apart := false }
def FnExactWorldSameSaid : Prop := fnExactWorldSameRow.holds Tryz.pinned (OpenSpec.ofChange fnExactWorldSameSpec)

/-- ITS FALSE NEIGHBOUR: 'it returns false'. Refute it at one input. -/
def fnExactWorldSameWrong : ChangeSpec := { name := "fnExactWorldSame", fn := fun _ => fun
  | [d] => { results := [.lit (.bool false)], args := [d] }
  | _ => none }
def FnExactWorldSameWrongFalsely : Prop := fnExactWorldSameRow.holds Tryz.pinned (OpenSpec.ofChange fnExactWorldSameWrong)

/-- 'laws.FnExactWorldLag': WHATEVER THE INPUT: true; the input reads as it did. -/
def fnExactWorldLagSpec : ChangeSpec := { name := "fnExactWorldLag", fn := fun _ => fun
  | [d] => { results := [.lit (.bool true)], args := [d] }
  | _ => none }
def fnExactWorldLagRow : OpenClaim := { program := "ytfhnofppfacemaagreat", sum := "58e1adfbe53588a970bb0630435e2a9124a57f4466a1bc1d7b6f43aad147784f", func := "loop.example/confluence/laws.FnExactWorldLag", spec := "fnExactWorldLag", unfollowed := true, recurses := true, apart := false }
def FnExactWorldLagSaid : Prop := fnExactWorldLagRow.holds Tryz.pinned (OpenSpec.ofChange fnExactWorldLagSpec)

/-- ITS FALSE NEIGHBOUR: 'it returns false'. Refute it at one input. -/
def fnExactWorldLagWrong : ChangeSpec := { name := "fnExactWorldLag", fn := fun _ => fun
  | [d] => { results := [.lit (.bool false)], args := [d] }
  | _ => none }
def FnExactWorldLagWrongFalsely : Prop := fnExactWorldLagRow.holds Tryz.pinned (OpenSpec.ofChange fnExactWorldLagWrong)

/-- 'laws.FnExactWorldNodes': WHATEVER THE INPUT: true; the input reads as it did. -/
def fnExactWorldNodesSpec : ChangeSpec := { name := "fnExactWorldNodes", fn := fun _ => fun
  | [d1, d2, d3] => { results := [.lit (.bool true)], args := [d1, d2, d3] }
  | _ => none }
def fnExactWorldNodesRow : OpenClaim := { program := "ytfhnofppfacemaagreat", sum := "58e1adfbe53588a970bb0630435e2a9124a57f4466a1bc1d7b6f43aad147784f", func := "loop.example/confluence/laws.FnExactWorldNodes", spec := "fnExactWorldNodes", unfollowed := true, recurses := true, apart := false }
def FnExactWorldNodesSaid : Prop := fnExactWorldNodesRow.holds Tryz.pinned (OpenSpec.ofChange fnExactWorldNodesSpec)

/-- ITS FALSE NEIGHBOUR: 'it returns false'. Refute it at one input. -/
def fnExactWorldNodesWrong : ChangeSpec := { name := "fnExactWorldNodes", fn := fun _ => fun
  | [d1, d2, d3] => { results := [.lit (.bool false)], args := [d1, d2, d3] }
  | _ => none }
def FnExactWorldNodesWrongFalsely : Prop := fnExactWorldNodesRow.holds Tryz.pinned (OpenSpec.ofChange fnExactWorldNodesWrong)

/-- 'laws.FnExactPlaceFall': WHATEVER THE INPUT: true; the input reads as it did. -/
def fnExactPlaceFallSpec : ChangeSpec := { name := "fnExactPlaceFall", fn := fun _ => fun
  | [d1, d2] => { results := [.lit (.bool true)], args := [d1, d2] }
  | _ => none }
def fnExactPlaceFallRow : OpenClaim := { program := "ytfhnofppfacemaagreat", sum := "58e1adfbe53588a970bb0630435e2a9124a57f4466a1bc1d7b6f43aad147784f", func := "loop.example/confluence/laws.FnExactPlaceFall", spec := "fnExactPlaceFall", unfollowed := true, recurses := true, apart := false }
def FnExactPlaceFallSaid : Prop := fnExactPlaceFallRow.holds Tryz.pinned (OpenSpec.ofChange fnExactPlaceFallSpec)

/-- ITS FALSE NEIGHBOUR: 'it returns false'. Refute it at one input. -/
def fnExactPlaceFallWrong : ChangeSpec := { name := "fnExactPlaceFall", fn := fun _ => fun
  | [d1, d2] => { results := [.lit (.bool false)], args := [d1, d2] }
  | _ => none }
def FnExactPlaceFallWrongFalsely : Prop := fnExactPlaceFallRow.holds Tryz.pinned (OpenSpec.ofChange fnExactPlaceFallWrong)

/- THE SECOND FORM. 'bulk': how many values and letters a reading holds, each counted each time it is reached (what is shared counts as often as it is met; a slice's spare places count too). A statement '..UptoSaid' is the law's where the arguments, and the package variables that the reading takes, are together of bulk at most 1048576: NARROWER than '..Said'. Prove '..Said' where nothing that the law and all that it calls make is longer than what came in: it says more and counts as full. Else prove '..UptoSaid'. A law counts once. -/
mutual
def uptoBulk {H : Type} : DataW H → Nat
  | .lit (.string bytes) => bytes.length + 1
  | .lit _ => 1
  | .nil => 1
  | .ptr d => uptoBulk d + 1
  | .slice elems spare => uptoBulkAll elems + uptoBulkAll spare + 1
  | .agg parts => uptoBulkAll parts + 1
  | .iface _ d => uptoBulk d + 1
  | .map entries => uptoBulkEntries entries + 1
  | .held _ => 1
def uptoBulkAll {H : Type} : List (DataW H) → Nat
  | [] => 0
  | d :: r => uptoBulk d + uptoBulkAll r
def uptoBulkEntries {H : Type} : List (Lit × DataW H) → Nat
  | [] => 0
  | x :: r => uptoBulkEntry x + uptoBulkEntries r
def uptoBulkEntry {H : Type} : Lit × DataW H → Nat
  | (.string bytes, d) => bytes.length + uptoBulk d + 1
  | (_, d) => uptoBulk d + 1
 end
def uptoSmall : (H : Type) → List (DataW H) → Bool := fun _ ds => decide (uptoBulkAll ds ≤ 1048576)
def OpenSpec.upto (s : _root_.Go.ChangeSpec) : _root_.Go.OpenSpec := { _root_.Go.OpenSpec.ofChange s with cond := some uptoSmall }

/-- 'laws.FnExactPlaceTold', WHERE WHAT IT READS IS OF BULK AT MOST 1048576: true; the input reads as it did. -/
def fnExactPlaceToldUptoRow : OpenClaim := { program := "ytfhnofppfacemaagreat", sum := "58e1adfbe53588a970bb0630435e2a9124a57f4466a1bc1d7b6f43aad147784f", func := "loop.example/confluence/laws.FnExactPlaceTold", spec := "fnExactPlaceTold", unfollowed := true, recurses := true, apart := false, narrowed := true }
def FnExactPlaceToldUptoSaid : Prop := fnExactPlaceToldUptoRow.holds Tryz.pinned (OpenSpec.upto fnExactPlaceToldSpec)

/-- 'laws.FnExactPlaceJoin', WHERE WHAT IT READS IS OF BULK AT MOST 1048576: true; the input reads as it did. -/
def fnExactPlaceJoinUptoRow : OpenClaim := { program := "ytfhnofppfacemaagreat", sum := "58e1adfbe53588a970bb0630435e2a9124a57f4466a1bc1d7b6f43aad147784f", func := "loop.example/confluence/laws.FnExactPlaceJoin", spec := "fnExactPlaceJoin", unfollowed := true, recurses := true, apart := false, narrowed := true }
def FnExactPlaceJoinUptoSaid : Prop := fnExactPlaceJoinUptoRow.holds Tryz.pinned (OpenSpec.upto fnExactPlaceJoinSpec)

/-- 'laws.FnExactPlaceHear', WHERE WHAT IT READS IS OF BULK AT MOST 1048576: true; the input reads as it did. -/
def fnExactPlaceHearUptoRow : OpenClaim := { program := "ytfhnofppfacemaagreat", sum := "58e1adfbe53588a970bb0630435e2a9124a57f4466a1bc1d7b6f43aad147784f", func := "loop.example/confluence/laws.FnExactPlaceHear", spec := "fnExactPlaceHear", unfollowed := true, recurses := true, apart := false, narrowed := true }
def FnExactPlaceHearUptoSaid : Prop := fnExactPlaceHearUptoRow.holds Tryz.pinned (OpenSpec.upto fnExactPlaceHearSpec)

/-- 'laws.FnExactPlacePass', WHERE WHAT IT READS IS OF BULK AT MOST 1048576: true; the input reads as it did. -/
def fnExactPlacePassUptoRow : OpenClaim := { program := "ytfhnofppfacemaagreat", sum := "58e1adfbe53588a970bb0630435e2a9124a57f4466a1bc1d7b6f43aad147784f", func := "loop.example/confluence/laws.FnExactPlacePass", spec := "fnExactPlacePass", unfollowed := true, recurses := true, apart := false, narrowed := true }
def FnExactPlacePassUptoSaid : Prop := fnExactPlacePassUptoRow.holds Tryz.pinned (OpenSpec.upto fnExactPlacePassSpec)

/-- 'laws.FnExactPlaceTake', WHERE WHAT IT READS IS OF BULK AT MOST 1048576: true; the input reads as it did. -/
def fnExactPlaceTakeUptoRow : OpenClaim := { program := "ytfhnofppfacemaagreat", sum := "58e1adfbe53588a970bb0630435e2a9124a57f4466a1bc1d7b6f43aad147784f", func := "loop.example/confluence/laws.FnExactPlaceTake", spec := "fnExactPlaceTake", unfollowed := true, recurses := true, apart := false, narrowed := true }
def FnExactPlaceTakeUptoSaid : Prop := fnExactPlaceTakeUptoRow.holds Tryz.pinned (OpenSpec.upto fnExactPlaceTakeSpec)

/-- 'laws.FnExactPlaceWrite', WHERE WHAT IT READS IS OF BULK AT MOST 1048576: true; the input reads as it did. -/
def fnExactPlaceWriteUptoRow : OpenClaim := { program := "ytfhnofppfacemaagreat", sum := "58e1adfbe53588a970bb0630435e2a9124a57f4466a1bc1d7b6f43aad147784f", func := "loop.example/confluence/laws.FnExactPlaceWrite", spec := "fnExactPlaceWrite", unfollowed := true, recurses := true, apart := false, narrowed := true }
def FnExactPlaceWriteUptoSaid : Prop := fnExactPlaceWriteUptoRow.holds Tryz.pinned (OpenSpec.upto fnExactPlaceWriteSpec)

/-- 'laws.FnExactChainFall', WHERE WHAT IT READS IS OF BULK AT MOST 1048576: true; the input reads as it did. -/
def fnExactChainFallUptoRow : OpenClaim := { program := "ytfhnofppfacemaagreat", sum := "58e1adfbe53588a970bb0630435e2a9124a57f4466a1bc1d7b6f43aad147784f", func := "loop.example/confluence/laws.FnExactChainFall", spec := "fnExactChainFall", unfollowed := true, recurses := true, apart := false, narrowed := true }
def FnExactChainFallUptoSaid : Prop := fnExactChainFallUptoRow.holds Tryz.pinned (OpenSpec.upto fnExactChainFallSpec)

/-- 'laws.FnExactWorldOk', WHERE WHAT IT READS IS OF BULK AT MOST 1048576: true; the input reads as it did. -/
def fnExactWorldOkUptoRow : OpenClaim := { program := "ytfhnofppfacemaagreat", sum := "58e1adfbe53588a970bb0630435e2a9124a57f4466a1bc1d7b6f43aad147784f", func := "loop.example/confluence/laws.FnExactWorldOk", spec := "fnExactWorldOk", unfollowed := true, recurses := true, apart := false, narrowed := true }
def FnExactWorldOkUptoSaid : Prop := fnExactWorldOkUptoRow.holds Tryz.pinned (OpenSpec.upto fnExactWorldOkSpec)

/-- 'laws.FnExactWorldSame', WHERE WHAT IT READS IS OF BULK AT MOST 1048576: true; the input reads as it did. -/
def fnExactWorldSameUptoRow : OpenClaim := { program := "ytfhnofppfacemaagreat", sum := "58e1adfbe53588a970bb0630435e2a9124a57f4466a1bc1d7b6f43aad147784f", func := "loop.example/confluence/laws.FnExactWorldSame", spec := "fnExactWorldSame", unfollowed := true, recurses := true, apart := false, narrowed := true }
def FnExactWorldSameUptoSaid : Prop := fnExactWorldSameUptoRow.holds Tryz.pinned (OpenSpec.upto fnExactWorldSameSpec)

/-- 'laws.FnExactWorldLag', WHERE WHAT IT READS IS OF BULK AT MOST 1048576: true; the input reads as it did. -/
def fnExactWorldLagUptoRow : OpenClaim := { program := "ytfhnofppfacemaagreat", sum := "58e1adfbe53588a970bb0630435e2a9124a57f4466a1bc1d7b6f43aad147784f", func := "loop.example/confluence/laws.FnExactWorldLag", spec := "fnExactWorldLag", unfollowed := true, recurses := true, apart := false, narrowed := true }
def FnExactWorldLagUptoSaid : Prop := fnExactWorldLagUptoRow.holds Tryz.pinned (OpenSpec.upto fnExactWorldLagSpec)

/-- 'laws.FnExactWorldNodes', WHERE WHAT IT READS IS OF BULK AT MOST 1048576: true; the input reads as it did. -/
def fnExactWorldNodesUptoRow : OpenClaim := { program := "ytfhnofppfacemaagreat", sum := "58e1adfbe53588a970bb0630435e2a9124a57f4466a1bc1d7b6f43aad147784f", func := "loop.example/confluence/laws.FnExactWorldNodes", spec := "fnExactWorldNodes", unfollowed := true, recurses := true, apart := false, narrowed := true }
def FnExactWorldNodesUptoSaid : Prop := fnExactWorldNodesUptoRow.holds Tryz.pinned (OpenSpec.upto fnExactWorldNodesSpec)

/-- 'laws.FnExactPlaceFall', WHERE WHAT IT READS IS OF BULK AT MOST 1048576: true; the input reads as it did. -/
def fnExactPlaceFallUptoRow : OpenClaim := { program := "ytfhnofppfacemaagreat", sum := "58e1adfbe53588a970bb0630435e2a9124a57f4466a1bc1d7b6f43aad147784f", func := "loop.example/confluence/laws.FnExactPlaceFall", spec := "fnExactPlaceFall", unfollowed := true, recurses := true, apart := false, narrowed := true }
def FnExactPlaceFallUptoSaid : Prop := fnExactPlaceFallUptoRow.holds Tryz.pinned (OpenSpec.upto fnExactPlaceFallSpec)

end Rows
end Go.Proofs.YtfhnofppfacemaaGreat
