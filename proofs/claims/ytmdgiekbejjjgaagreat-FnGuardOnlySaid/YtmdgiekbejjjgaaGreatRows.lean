/-
  No cell of these rows narrows 'for every input' (looked for: loops, veiled, ifaces, maps, wideKeys, modest, calm, conditions, laid).
  DERIVED. THE GIVEN ROWS OF THIS SEAT. 5 by the template 'for every input the law returns true; each argument reads behind the call as it read before'; 0 by the template 'total and deterministic' (their statements: YtmdgiekbejjjgaaGreatTotals.lean).
  GIVEN WITH THE SEED: the statements are not yours to turn. If you find one false, say at which input.
  Laid BY PROGRAM, IN A SANDBOX (cutbox-rows.mjs): the forced cells as the released guide's own fill.sh prints them over the translation 8543e6a768b90928… (all of the seat's roots in one cut). By AI agents, Wed Nov 11 2026. No macro, syntax, notation, axiom, sorry.
-/
import Derived.Test.YtmdgiekbejjjgaaGreatChecked
import GoSem.Claim
import GoSem.ClaimJoined
import GoSem.ClaimMapViews
import Derived.JoinedTies
import Derived.KernelRfl
namespace Go.Proofs.YtmdgiekbejjjgaaGreat
/- THE CELL 'sum', in the pinned program and in every row, IS THE sha256 OF THE DUMP (.gsa) THAT YtmdgiekbejjjgaaGreatProg.lean LOADS. Nothing in Lean hashes anything: it is a label: what it is worth is what the hold of that sum in a sandbox is worth. -/
noncomputable def Tryz.pinned : Pinned := { name := "ytmdgiekbejjjgaagreat", sum := "8543e6a768b909286e438414dad85c4a1d52ca374df12a95936bd9883f403e26", checked := Tryz.checked }
namespace Rows
def none {H : Type} : Left H := { results := [], args := [] }

/-- 'laws.FnGuardOnly': WHATEVER THE INPUT: true; the input reads as it did. -/
def fnGuardOnlySpec : ChangeSpec := { name := "fnGuardOnly", fn := fun _ => fun
  | [d] => { results := [.lit (.bool true)], args := [d] }
  | _ => none }
def fnGuardOnlyRow : OpenClaim := { program := "ytmdgiekbejjjgaagreat", sum := "8543e6a768b909286e438414dad85c4a1d52ca374df12a95936bd9883f403e26", func := "loop.example/confluence/laws.FnGuardOnly", spec := "fnGuardOnly", unfollowed := true, recurses := true, plainKeys := false, apart := false }
def FnGuardOnlySaid : Prop := fnGuardOnlyRow.holds Tryz.pinned (OpenSpec.ofChange fnGuardOnlySpec)

/-- ITS FALSE NEIGHBOUR: 'it returns false'. Refute it at one input. -/
def fnGuardOnlyWrong : ChangeSpec := { name := "fnGuardOnly", fn := fun _ => fun
  | [d] => { results := [.lit (.bool false)], args := [d] }
  | _ => none }
def FnGuardOnlyWrongFalsely : Prop := fnGuardOnlyRow.holds Tryz.pinned (OpenSpec.ofChange fnGuardOnlyWrong)

/-- 'laws.FnWorldSure': WHATEVER THE INPUT: true; the input reads as it did. -/
def fnWorldSureSpec : ChangeSpec := { name := "fnWorldSure", fn := fun _ => fun
  | [d1, d2] => { results := [.lit (.bool true)], args := [d1, d2] }
  | _ => none }
def fnWorldSureRow : OpenClaim := { program := "ytmdgiekbejjjgaagreat", sum := "8543e6a768b909286e438414dad85c4a1d52ca374df12a95936bd9883f403e26", func := "loop.example/confluence/laws.FnWorldSure", spec := "fnWorldSure", unfollowed := true, recurses := true, plainKeys := false, apart := false }
def FnWorldSureSaid : Prop := fnWorldSureRow.holds Tryz.pinned (OpenSpec.ofChange fnWorldSureSpec)

/-- ITS FALSE NEIGHBOUR: 'it returns false'. Refute it at one input. -/
def fnWorldSureWrong : ChangeSpec := { name := "fnWorldSure", fn := fun _ => fun
  | [d1, d2] => { results := [.lit (.bool false)], args := [d1, d2] }
  | _ => none }
def FnWorldSureWrongFalsely : Prop := fnWorldSureRow.holds Tryz.pinned (OpenSpec.ofChange fnWorldSureWrong)

/-- 'laws.FnWorldLogs': WHATEVER THE INPUT: true; the input reads as it did. -/
def fnWorldLogsSpec : ChangeSpec := { name := "fnWorldLogs", fn := fun _ => fun
  | [d1, d2] => { results := [.lit (.bool true)], args := [d1, d2] }
  | _ => none }
def fnWorldLogsRow : OpenClaim := { program := "ytmdgiekbejjjgaagreat", sum := "8543e6a768b909286e438414dad85c4a1d52ca374df12a95936bd9883f403e26", func := "loop.example/confluence/laws.FnWorldLogs", spec := "fnWorldLogs", unfollowed := true, recurses := true, plainKeys := false, apart := false }
def FnWorldLogsSaid : Prop := fnWorldLogsRow.holds Tryz.pinned (OpenSpec.ofChange fnWorldLogsSpec)

/-- ITS FALSE NEIGHBOUR: 'it returns false'. Refute it at one input. -/
def fnWorldLogsWrong : ChangeSpec := { name := "fnWorldLogs", fn := fun _ => fun
  | [d1, d2] => { results := [.lit (.bool false)], args := [d1, d2] }
  | _ => none }
def FnWorldLogsWrongFalsely : Prop := fnWorldLogsRow.holds Tryz.pinned (OpenSpec.ofChange fnWorldLogsWrong)

/-- 'laws.FnWorldStable': WHATEVER THE INPUT: true; the input reads as it did. -/
def fnWorldStableSpec : ChangeSpec := { name := "fnWorldStable", fn := fun _ => fun
  | [d1, d2] => { results := [.lit (.bool true)], args := [d1, d2] }
  | _ => none }
def fnWorldStableRow : OpenClaim := { program := "ytmdgiekbejjjgaagreat", sum := "8543e6a768b909286e438414dad85c4a1d52ca374df12a95936bd9883f403e26", func := "loop.example/confluence/laws.FnWorldStable", spec := "fnWorldStable", unfollowed := true, recurses := true, plainKeys := false, apart := false }
def FnWorldStableSaid : Prop := fnWorldStableRow.holds Tryz.pinned (OpenSpec.ofChange fnWorldStableSpec)

/-- ITS FALSE NEIGHBOUR: 'it returns false'. Refute it at one input. -/
def fnWorldStableWrong : ChangeSpec := { name := "fnWorldStable", fn := fun _ => fun
  | [d1, d2] => { results := [.lit (.bool false)], args := [d1, d2] }
  | _ => none }
def FnWorldStableWrongFalsely : Prop := fnWorldStableRow.holds Tryz.pinned (OpenSpec.ofChange fnWorldStableWrong)

/-- 'laws.FnWorldAll': WHATEVER THE INPUT: true; the input reads as it did. -/
def fnWorldAllSpec : ChangeSpec := { name := "fnWorldAll", fn := fun _ => fun
  | [d1, d2] => { results := [.lit (.bool true)], args := [d1, d2] }
  | _ => none }
def fnWorldAllRow : OpenClaim := { program := "ytmdgiekbejjjgaagreat", sum := "8543e6a768b909286e438414dad85c4a1d52ca374df12a95936bd9883f403e26", func := "loop.example/confluence/laws.FnWorldAll", spec := "fnWorldAll", unfollowed := true, recurses := true, plainKeys := false, apart := false }
def FnWorldAllSaid : Prop := fnWorldAllRow.holds Tryz.pinned (OpenSpec.ofChange fnWorldAllSpec)

/-- ITS FALSE NEIGHBOUR: 'it returns false'. Refute it at one input. -/
def fnWorldAllWrong : ChangeSpec := { name := "fnWorldAll", fn := fun _ => fun
  | [d1, d2] => { results := [.lit (.bool false)], args := [d1, d2] }
  | _ => none }
def FnWorldAllWrongFalsely : Prop := fnWorldAllRow.holds Tryz.pinned (OpenSpec.ofChange fnWorldAllWrong)

/- THE SECOND FORM. 'bulk': how many values and letters a reading holds, each counted each time it is reached (what is shared counts as often as it is met; a slice's spare places count too). A statement '..UptoSaid' is the law's where the arguments, and the package variables that the reading takes, are together of bulk at most 1048576: NARROWER than '..Said'. Prove '..Said' where nothing that the law and all that it calls make is longer than what came in: it says more and counts as full. Else prove '..UptoSaid'. A law counts once. -/
mutual
def uptoBulk {H : Type} : DataW H → Nat
  | .lit (.string bytes) => bytes.length + 1
  | .lit _ => 1
  | .nil => 1
  | .ptr d => uptoBulk d + 1
  | .slice elems spare => uptoBulkAll elems + uptoBulkAll spare + 1
  | .agg parts => uptoBulkAll parts + 1
  | .iface _ d => uptoBulk d + 1
  | .map entries => uptoBulkEntries entries + 1
  | .held _ => 1
def uptoBulkAll {H : Type} : List (DataW H) → Nat
  | [] => 0
  | d :: r => uptoBulk d + uptoBulkAll r
def uptoBulkEntries {H : Type} : List (Lit × DataW H) → Nat
  | [] => 0
  | x :: r => uptoBulkEntry x + uptoBulkEntries r
def uptoBulkEntry {H : Type} : Lit × DataW H → Nat
  | (.string bytes, d) => bytes.length + uptoBulk d + 1
  | (_, d) => uptoBulk d + 1
 end
def uptoSmall : (H : Type) → List (DataW H) → Bool := fun _ ds => decide (uptoBulkAll ds ≤ 1048576)
def OpenSpec.upto (s : _root_.Go.ChangeSpec) : _root_.Go.OpenSpec := { _root_.Go.OpenSpec.ofChange s with cond := some uptoSmall }

/-- 'laws.FnGuardOnly', WHERE WHAT IT READS IS OF BULK AT MOST 1048576: true; the input reads as it did. -/
def fnGuardOnlyUptoRow : OpenClaim := { program := "ytmdgiekbejjjgaagreat", sum := "8543e6a768b909286e438414dad85c4a1d52ca374df12a95936bd9883f403e26", func := "loop.example/confluence/laws.FnGuardOnly", spec := "fnGuardOnly", unfollowed := true, recurses := true, plainKeys := false, apart := false, narrowed := true }
def FnGuardOnlyUptoSaid : Prop := fnGuardOnlyUptoRow.holds Tryz.pinned (OpenSpec.upto fnGuardOnlySpec)

/-- 'laws.FnWorldSure', WHERE WHAT IT READS IS OF BULK AT MOST 1048576: true; the input reads as it did. -/
def fnWorldSureUptoRow : OpenClaim := { program := "ytmdgiekbejjjgaagreat", sum := "8543e6a768b909286e438414dad85c4a1d52ca374df12a95936bd9883f403e26", func := "loop.example/confluence/laws.FnWorldSure", spec := "fnWorldSure", unfollowed := true, recurses := true, plainKeys := false, apart := false, narrowed := true }
def FnWorldSureUptoSaid : Prop := fnWorldSureUptoRow.holds Tryz.pinned (OpenSpec.upto fnWorldSureSpec)

/-- 'laws.FnWorldLogs', WHERE WHAT IT READS IS OF BULK AT MOST 1048576: true; the input reads as it did. -/
def fnWorldLogsUptoRow : OpenClaim := { program := "ytmdgiekbejjjgaagreat", sum := "8543e6a768b909286e438414dad85c4a1d52ca374df12a95936bd9883f403e26", func := "loop.example/confluence/laws.FnWorldLogs", spec := "fnWorldLogs", unfollowed := true, recurses := true, plainKeys := false, apart := false, narrowed := true }
def FnWorldLogsUptoSaid : Prop := fnWorldLogsUptoRow.holds Tryz.pinned (OpenSpec.upto fnWorldLogsSpec)

/-- 'laws.FnWorldStable', WHERE WHAT IT READS IS OF BULK AT MOST 1048576: true; the input reads as it did. -/
def fnWorldStableUptoRow : OpenClaim := { program := "ytmdgiekbejjjgaagreat", sum := "8543e6a768b909286e438414dad85c4a1d52ca374df12a95936bd9883f403e26", func := "loop.example/confluence/laws.FnWorldStable", spec := "fnWorldStable", unfollowed := true, recurses := true, plainKeys := false, apart := false, narrowed := true }
def FnWorldStableUptoSaid : Prop := fnWorldStableUptoRow.holds Tryz.pinned (OpenSpec.upto fnWorldStableSpec)

/-- 'laws.FnWorldAll', WHERE WHAT IT READS IS OF BULK AT MOST 1048576: true; the input reads as it did. -/
def fnWorldAllUptoRow : OpenClaim := { program := "ytmdgiekbejjjgaagreat", sum := "8543e6a768b909286e438414dad85c4a1d52ca374df12a95936bd9883f403e26", func := "loop.example/confluence/laws.FnWorldAll", spec := "fnWorldAll", unfollowed := true, recurses := true, plainKeys := false, apart := false, narrowed := true }
def FnWorldAllUptoSaid : Prop := fnWorldAllUptoRow.holds Tryz.pinned (OpenSpec.upto fnWorldAllSpec)

end Rows
end Go.Proofs.YtmdgiekbejjjgaaGreat
